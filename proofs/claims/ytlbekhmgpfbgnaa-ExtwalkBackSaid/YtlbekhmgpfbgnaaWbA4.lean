import Derived.Test.YtlbekhmgpfbgnaaWbA3
set_option linter.all false
namespace Go.Wb
open Go
section
variable {M : Nat → Prop} {β β1 : Bt} {h h' : Heap} {t t1 : TT} {tA : T} {r : Option (Value × Heap)} {v : TV} {a : Value}
theorem get_set_same {b : Nat} {x y : Blk} (hb : h[b]? = some y) : (h.set b x)[b]? = some x := by
 rw [List.getElem?_set_self (get_lt hb)]
theorem updT_eq {k : Nat} {u : TV} : updT t k u = fun i => if i = k then u else id (t i) := rfl
theorem setC_eq {k : Nat} {u : TV} : setC t k u = fun i => if i = k then u else klC k (t i) := rfl
theorem cvr_set {β' : Option Nat → Option Nat} {N : Nat → Prop} {cs : List CV} {ca : List Value} {j : Nat} {c : CV} {u : Value} (hl : cs.length = ca.length) (hc : ∀ i, i < cs.length → CVR β' h N i (cs.getD i .gone) (ca.getD i Go.undef)) (hn : CVR β' h N j c u) :
 ∀ i, i < (cs.set j c).length → CVR β' h N i ((cs.set j c).getD i .gone) ((ca.set j u).getD i Go.undef) := by
 intro i hi
 rw [List.length_set] at hi
 simp only [List.getD_eq_getElem?_getD, List.getElem?_set]
 by_cases h1 : j = i
 ·subst h1
  rw [if_pos rfl, if_pos hi, if_pos rfl, if_pos (by rw [← hl]; exact hi)]
  exact hn
 ·rw [if_neg h1, if_neg h1]
  simpa [List.getD_eq_getElem?_getD] using hc i hi
theorem cvr_set1 {β' : Option Nat → Option Nat} {N : Nat → Prop} {cs : List CV} {ca : List Value} {j : Nat} {c : CV} (hc : ∀ i, i < cs.length → CVR β' h N i (cs.getD i .gone) (ca.getD i Go.undef)) (hn : CVR β' h N j c (ca.getD j Go.undef)) :
 ∀ i, i < (cs.set j c).length → CVR β' h N i ((cs.set j c).getD i .gone) (ca.getD i Go.undef) := by
 intro i hi
 rw [List.length_set] at hi
 simp only [List.getD_eq_getElem?_getD, List.getElem?_set]
 by_cases h1 : j = i
 ·subst h1
  rw [if_pos rfl, if_pos hi]
  simpa [List.getD_eq_getElem?_getD] using hn
 ·rw [if_neg h1]
  simpa [List.getD_eq_getElem?_getD] using hc i hi
theorem frs_splice {N : Nat → Prop} {cs new : List PV} {ca na : List Value} {off : Nat} (hf : FRs h N cs ca) (hn : FRs h N new na) : FRs h N (cs.take off ++ new ++ cs.drop (off + new.length)) (ca.take off ++ na ++ ca.drop (off + na.length)) := by
 rw [← hn.1]
 exact frs_append (frs_append (frs_take hf off) hn) (frs_drop hf _)
theorem cvr_splice {β' : Option Nat → Option Nat} {N : Nat → Prop} {cs : List CV} {ca na : List Value} {new : List PV} {off : Nat} (hl : cs.length = ca.length) (hc : ∀ i, i < cs.length → CVR β' h N i (cs.getD i .gone) (ca.getD i Go.undef)) (hn : FRs h N new na)
 (hle : off + new.length ≤ cs.length) : (cs.take off ++ new.map CV.v ++ cs.drop (off + new.length)).length = (ca.take off ++ na ++ ca.drop (off + na.length)).length ∧
 ∀ i, i < (cs.take off ++ new.map CV.v ++ cs.drop (off + new.length)).length → CVR β' h N i ((cs.take off ++ new.map CV.v ++ cs.drop (off + new.length)).getD i .gone) ((ca.take off ++ na ++ ca.drop (off + na.length)).getD i Go.undef) := by
 have hnl := hn.1
 refine ⟨by simp only [List.length_append, List.length_take, List.length_drop, List.length_map]; omega, fun i hi => ?_⟩
 have hi' : i < cs.length := by simp only [List.length_append, List.length_take, List.length_drop, List.length_map] at hi; omega
 have ha1 : (cs.take off).length = off := by rw [List.length_take]; omega
 have ha2 : (ca.take off).length = off := by rw [List.length_take]; omega
 simp only [List.getD_eq_getElem?_getD, List.append_assoc]
 rcases Nat.lt_or_ge i off with h1 | h1
 ·rw [List.getElem?_append_left (by omega), List.getElem?_append_left (by omega), List.getElem?_take, List.getElem?_take, if_pos h1, if_pos h1]
  simpa [List.getD_eq_getElem?_getD] using hc i hi'
 ·rw [List.getElem?_append_right (l₁ := cs.take off) (by omega), List.getElem?_append_right (l₁ := ca.take off) (by omega), ha1, ha2]
  rcases Nat.lt_or_ge (i - off) new.length with h2 | h2
  ·rw [List.getElem?_append_left (by rw [List.length_map]; exact h2), List.getElem?_append_left (by omega)]
   have := hn.2 (i - off) h2
   rw [List.getElem?_map, List.getElem?_eq_getElem h2]
   simp only [List.getD_eq_getElem?_getD, List.getElem?_eq_getElem h2, Option.getD_some] at this
   exact this
  ·rw [List.getElem?_append_right (by rw [List.length_map]; exact h2), List.getElem?_append_right (by omega), List.length_map, List.getElem?_drop, List.getElem?_drop, ← hnl]
   have e : off + new.length + (i - off - new.length) = i := by omega
   rw [e]
   simpa [List.getD_eq_getElem?_getD] using hc i hi'
theorem write_box (s : SR M β h t tA) {k b : Nat} {cs cs' : List CV} {ca ca' : List Value} (hk : t k = .box cs) (hb : β k none = some b) (hg : h[b]? = some (.mem false ca)) (hta : tA k = .pointer (some ⟨b, 0, none⟩)) (hl : cs'.length = ca'.length)
 (hc : ∀ i, i < cs'.length → CVR (β k) h (NF M β) i (cs'.getD i .gone) (ca'.getD i Go.undef)) (f : TV → TV) (hf : ∀ i u a, i ≠ k → TR β h (NF M β) i u a → TR β h (NF M β) i (f u) a) :
 SR M β (h.set b (.mem false ca')) (fun i => if i = k then .box cs' else f (t i)) tA := by
 refine s.write (c := none) hb _ f hf fun h' he hkp => ?_
 subst he
 refine ⟨b, ca', hb, hta, get_set_same hg, hl, fun j hj => (hc j hj).keep hkp fun b' hb' => ?_⟩
 have hne : b ≠ b' := fun he => by
  subst he
  have := (s.inj _ _ _ _ _ hb hb').2
  cases this
 rw [List.getElem?_set_ne hne]
theorem write_own (s : SR M β h t tA) {k b n s' : Nat} {cs cs' : List PV} {ca ca' : List Value} (hk : t k = .own n s' cs) (hb : β k none = some b) (hg : h[b]? = some (.mem false ca)) (hta : tA k = .slice (some ⟨b, 0, none⟩) n s') (hl : n * s' = cs'.length)
 (hc : FRs h (NF M β) cs' ca') : SR M β (h.set b (.mem false ca')) (updT t k (.own n s' cs')) tA := by
 refine s.write (c := none) hb _ id (fun _ _ _ _ hu => hu) fun h' he hkp => ?_
 subst he
 exact .inr ⟨b, ca', hb, hta, get_set_same hg, hl, hc.keep hkp⟩
theorem write_nest (s : SR M β h t tA) {k b j n s' : Nat} {bs : List CV} {cs cs' : List PV} {ca ca' : List Value} (hk : t k = .box bs) (hj : cellC bs j = some (.o n s' cs)) (hb : β k (some j) = some b) (hg : h[b]? = some (.mem false ca)) (hl : n * s' = cs'.length)
 (hc : FRs h (NF M β) cs' ca') : SR M β (h.set b (.mem false ca')) (updT t k (.box (bs.set j (.o n s' cs')))) tA := by
 have htr := s.tr k
 rw [hk] at htr
 obtain ⟨b0, ca0, g1, g2, g3, g4, g5⟩ := htr
 have hne : b ≠ b0 := fun he => by
  subst he
  have := (s.inj _ _ _ _ _ hb g1).2
  cases this
 refine s.write hb _ id (fun _ _ _ _ hu => hu) fun h' he hkp => ?_
 subst he
 refine ⟨b0, ca0, g1, g2, by rw [List.getElem?_set_ne hne]; exact g3, by rw [List.length_set]; exact g4, fun i hi => ?_⟩
 rw [List.length_set] at hi
 obtain ⟨hjl, hown⟩ := cell_own g5 hj
 simp only [List.getD_eq_getElem?_getD, List.getElem?_set]
 by_cases h1 : j = i
 ·subst h1
  rw [if_pos rfl, if_pos hi]
  rcases hown with ⟨h1, _⟩ | ⟨b', ca', h1, h2, h3, h4, h5⟩
  ·rw [hb] at h1; cases h1
  ·rw [hb] at h1; injection h1 with h1; subst h1
   exact .inr ⟨b, _, hb, by simpa [List.getD_eq_getElem?_getD] using h2, get_set_same hg, hl, hc.keep hkp⟩
 ·rw [if_neg h1]
  have := g5 i hi
  simp only [List.getD_eq_getElem?_getD] at this
  refine this.keep hkp fun b' hb' => ?_
  have hne2 : b ≠ b' := fun he => by
   subst he
   have := (s.inj _ _ _ _ _ hb hb').2
   injection this with this
   exact h1 this
  rw [List.getElem?_set_ne hne2]
theorem upd_self {k : Nat} : Go.Wb.upd tA k (tA k) = tA := by funext i; unfold Go.Wb.upd; split <;> simp_all
theorem SR.nest {X : Nat → Prop} (s : SR (fun b => M b ∨ X b) β h t tA) {k j : Nat} {cs : List CV} {ob : Option Nat} {n s' : Nat} {l : List PV} (hk : t k = .box cs) (hj : j < cs.length) (ho : ∀ b, ob = some b → X b ∧ ¬ M b)
 (hown : ∀ ca b, β k none = some b → h[b]? = some (Blk.mem false ca) → OwnAt h (NF (fun b => M b ∨ X b) β) ob n s' l (ca.getD j Go.undef)) :
 SR M (setB β k fun c => if c = some j then ob else β k c) h (setC t k (.box (cs.set j (.o n s' l)))) tA := by
 have htr := s.tr k
 rw [hk] at htr
 obtain ⟨b0, ca0, g1, g2, g3, g4, g5⟩ := htr
 have hless : ∀ b, NF M (setB β k fun c => if c = some j then ob else β k c) b → NF (fun b => M b ∨ X b) β b := by
  rintro b (hb | ⟨k', c, hb⟩)
  ·exact .inl (.inl hb)
  ·unfold setB at hb
   split at hb
   ·dsimp only at hb
    split at hb
    ·exact .inl (.inr (ho b hb).1)
    ·exact .inr ⟨_, _, hb⟩
   ·exact .inr ⟨_, _, hb⟩
 have hor : ∀ k' c b, setB β k (fun c => if c = some j then ob else β k c) k' c = some b → (k' = k ∧ c = some j ∧ ob = some b) ∨ (¬ (k' = k ∧ c = some j) ∧ β k' c = some b) := by
  intro k' c b hb
  unfold setB at hb
  split at hb
  ·rename_i hkk
   dsimp only at hb
   split at hb
   ·exact .inl ⟨hkk, by assumption, hb⟩
   ·refine .inr ⟨fun hc => by simp_all, by rw [hkk]; exact hb⟩
  ·rename_i hkk
   exact .inr ⟨fun hc => hkk hc.1, hb⟩
 refine ⟨fun i => ?_, ?_, ?_, fun b hb => s.mlt b (.inl hb)⟩
 ·unfold setC
  split
  ·rename_i hi; subst hi
   refine ⟨b0, ca0, by rw [setB_same]; simpa using g1, g2, g3, by rw [List.length_set]; exact g4, ?_⟩
   rw [setB_same]
   have g6 : ∀ i', i' < cs.length → i' ≠ j → CVR (fun c => if c = some j then ob else β i c) h (NF M (setB β i fun c => if c = some j then ob else β i c)) i' (cs.getD i' .gone) (ca0.getD i' Go.undef) := by
    intro i' hi' hne
    have q := (g5 i' hi').keep (Keeps.less hless) (fun _ _ => rfl)
    have e : (if some i' = some j then ob else β i (some i')) = β i (some i') := by rw [if_neg (by simpa using hne)]
    cases hci : cs.getD i' .gone with
    | v p => rw [hci] at q; exact q
    | gone => trivial
    | o n s cs => rw [hci] at q; simp only [CVR] at q ⊢; rw [e]; exact q
   intro i' hi'
   rw [List.length_set] at hi'
   by_cases h1 : j = i'
   ·subst h1
    have e : (cs.set j (.o n s' l)).getD j .gone = .o n s' l := by simp [List.getD, hi']
    rw [e]
    simp only [CVR, if_true]
    exact (hown ca0 b0 g1 g3).keep (Keeps.less hless) (fun _ _ => rfl)
   ·have e : (cs.set j (.o n s' l)).getD i' .gone = cs.getD i' .gone := by simp only [List.getD_eq_getElem?_getD, List.getElem?_set_ne h1]
    rw [e]
    exact g6 i' hi' (Ne.symm h1)
  ·rename_i hi
   exact (klC_tr (by simp) hi (s.tr i)).keep (Keeps.less hless) (fun _ _ _ => rfl)
 ·intro k1 c1 k2 c2 b h1 h2
  rcases hor _ _ _ h1 with ⟨e1, e2, e3⟩ | ⟨e1, e3⟩ <;> rcases hor _ _ _ h2 with ⟨d1, d2, d3⟩ | ⟨d1, d3⟩
  ·exact ⟨by rw [e1, d1], by rw [e2, d2]⟩
  ·exact absurd (.inr (ho b e3).1) (s.lt _ _ _ d3).2
  ·exact absurd (.inr (ho b d3).1) (s.lt _ _ _ e3).2
  ·exact s.inj _ _ _ _ _ e3 d3
 ·intro k' c b hb
  rcases hor _ _ _ hb with ⟨_, _, e3⟩ | ⟨_, e3⟩
  ·exact ⟨s.mlt b (.inr (ho b e3).1), (ho b e3).2⟩
  ·exact ⟨(s.lt _ _ _ e3).1, fun hm => (s.lt _ _ _ e3).2 (.inl hm)⟩
theorem fr_set {k b : Nat} {c : Option Nat} {x : Blk} (hb : β k c = some b) (hsub : ∀ k' c' b', β1 k' c' = some b' → ∃ k c, β k c = some b') : Fr β h β1 (h.set b x) :=
 (Fr.write hb).trans ⟨Nat.le_refl _, fun _ _ _ => rfl, fun k c b hk => .inr (hsub k c b hk)⟩
theorem st1_sound (s : SR M β h t tA) {x y : Operand} (hx : st1 t x y = some t1) : Sound M β h tA ((writeV h none (Ev tA x) (Ev tA y)).map fun h' => (Go.undef, h')) .undef t1 := by
 have key : ∀ {b : Nat} {ca ca' : List Value} {k : Nat} {c : Option Nat}, β k c = some b → writeV h none (Ev tA x) (Ev tA y) = some (h.set b (.mem false ca')) → SR M β (h.set b (.mem false ca')) t1 tA → Sound M β h tA ((writeV h none (Ev tA x) (Ev tA y)).map fun h' => (Go.undef, h')) .undef t1 := by
  intro b ca ca' k c hb hw hs
  exact Sound.plain (by rw [hw]; rfl) (Fr.write hb) hs rfl trivial
 unfold st1 at hx
 split at hx
 ·rename_i k off hp
  obtain ⟨b, hb, ha⟩ := plc_ok s hp
  split at hx
  ·cases hx
  ·rename_i cs p hpa hk hy
   obtain ⟨ca, h1, h2, h3, h4⟩ := at_box s hk hb
   have hfp := ev_val s hy
   obtain ⟨o1, o2, o3⟩ := fr_one hfp (fun cs e => hpa cs e)
   split at hx
   ·rename_i q hc
    injection hx with hx; subst hx
    obtain ⟨q1, q2⟩ := cellC_ok hc
    refine key (ca := ca) hb (by rw [ha]; exact write_one h2 (by omega) o1) ?_
    rw [updT_eq]
    exact write_box s hk hb h2 h1 (by simpa using h3) (cvr_set h3 h4 (c := .v p) hfp) id (fun _ _ _ _ hu => hu)
   ·rename_i q hne hc
    injection hx with hx; subst hx
    obtain ⟨q1, q2⟩ := cellC_ok hc
    refine key (ca := ca) hb (by rw [ha]; exact write_one h2 (by omega) o1) ?_
    rw [setC_eq]
    exact write_box s hk hb h2 h1 (by simpa using h3) (cvr_set h3 h4 (c := .v p) hfp) (klC k) (fun i u a hi hu => klC_same hi hu)
   ·cases hx
  ·rename_i cs n s' l hk hy
   obtain ⟨ca, h1, h2, h3, h4⟩ := at_box s hk hb
   split at hx
   ·rename_i j
    split at hx
    ·rename_i hc
     injection hx with hx; subst hx
     obtain ⟨j', hj', htj, hown⟩ := ev_own s hy
     injection hj' with hj'
     subst hj'
     have o1 : (tA j).oneCell' = true := by
      rcases hown with ⟨_, _, _, e⟩ | ⟨_, _, _, e, _⟩ <;> rw [e] <;> rfl
     have s1 := s.dropR j
     have hkj : k ≠ j := Ne.symm hc.2
     have hbk : setB β j (fun _ => none) k none = some b := by rw [setB_ne hkj]; exact hb
     have hk1 : setR t j .undef k = .box cs := by unfold setR; rw [if_neg hkj, hk]; rfl
     obtain ⟨ca', _, h2', h3', h4'⟩ := at_box s1 hk1 hbk
     rw [h2] at h2'; injection h2' with h2'; injection h2' with _ h2'; subst h2'
     have s2 := write_box (cs' := cs.set off .gone) (ca' := ca.set off (tA j)) s1 hk1 hbk h2 h1 (by simpa using h3) (cvr_set h3 h4' trivial) id (fun _ _ _ _ hu => hu)
     have hg : (h.set b (.mem false (ca.set off (tA j))))[b]? = some (Blk.mem false (ca.set off (tA j))) := get_set_same h2
     have s3 := s2.nest (k := k) (j := off) (cs := cs.set off .gone) (ob := β j none) (n := n) (s' := s') (l := l) (by simp) (by simpa using hc.1)
      (fun b' hb' => ⟨⟨none, hb'⟩, (s.lt _ _ _ hb').2⟩) (by
       intro ca2 b2 hb2 hg2
       rw [hbk] at hb2; injection hb2 with hb2; subst hb2
       rw [hg] at hg2; injection hg2 with hg2; injection hg2 with _ hg2; subst hg2
       have e : (ca.set off (tA j)).getD off Go.undef = tA j := by
        rw [List.getD_eq_getElem?_getD, List.getElem?_set_self (by omega)]; rfl
       rw [e]
       refine OwnAt.keep hown ?_ fun b' hb' => ?_
       ·intro b' ro' ca'' q1 q2
        refine ⟨fun hn => q1 (nf_dropR _ hn), ?_⟩
        have hne : b ≠ b' := fun he => q1 (.inr ⟨k, none, he ▸ hb⟩)
        rw [List.getElem?_set_ne hne]; exact q2
       ·have hne : b ≠ b' := fun he => hkj (s.inj _ _ _ _ _ hb (he ▸ hb')).1
        rw [List.getElem?_set_ne hne])
     refine Sound.plain (by rw [ha]; simp only [Ev]; rw [write_one h2 (by omega) o1]; rfl) (fr_set hb ?_) ?_ rfl trivial (β1 := setB (setB β j fun _ => none) k fun c => if c = some off then β j none else setB β j (fun _ => none) k c)
     ·intro k' c' b' hb'
      unfold setB at hb'
      split at hb'
      ·dsimp only at hb'
       split at hb'
       ·exact ⟨_, _, hb'⟩
       ·try dsimp only at hb'
        first
        | exact ⟨_, _, hb'⟩
        | (split at hb'
           ·cases hb'
           ·exact ⟨_, _, hb'⟩)
      ·try dsimp only at hb'
       first
       | exact ⟨_, _, hb'⟩
       | (split at hb'
          ·cases hb'
          ·exact ⟨_, _, hb'⟩)
     ·have e1 : (setC (fun i => if i = k then TV.box (cs.set off .gone) else id (setR t j .undef i)) k (.box ((cs.set off .gone).set off (.o n s' l)))) = setC (setR t j .undef) k (.box (cs.set off (.o n s' l))) := by
       funext i
       unfold setC
       split
       ·rw [List.set_set]
       ·rename_i hi
        simp only [if_neg hi, id]
      rw [e1] at s3
      exact s3
    ·cases hx
   ·cases hx
  ·cases hx
  ·rename_i n s' cs p hpa hk hy
   obtain ⟨ca, h1, h2, h3, h4⟩ := at_own s hk hb
   have hfp := ev_val s hy
   obtain ⟨o1, o2, o3⟩ := fr_one hfp (fun cs e => hpa cs e)
   split at hx
   ·rename_i hlt
    injection hx with hx; subst hx
    refine key (ca := ca) hb (by rw [ha]; exact write_one h2 (by rw [← h4.1]; exact hlt) o1) ?_
    exact write_own s hk hb h2 h1 (by simpa using h3) (frs_set h4 hfp)
   ·cases hx
  ·cases hx
 ·rename_i k j off hp
  obtain ⟨b, hb, ha⟩ := plc_ok s hp
  split at hx
  ·cases hx
  ·rename_i cs p hpa hk hy
   have hfp := ev_val s hy
   obtain ⟨o1, o2, o3⟩ := fr_one hfp (fun cs e => hpa cs e)
   split at hx
   ·rename_i n s' l hc
    split at hx
    ·rename_i hlt
     injection hx with hx; subst hx
     obtain ⟨ca, h2, h3, h4⟩ := at_nest s hk hc hb
     refine key (ca := ca) hb (by rw [ha]; exact write_one h2 (by rw [← h4.1]; exact hlt) o1) ?_
     exact write_nest s hk hc hb h2 (by simpa using h3) (frs_set h4 hfp)
    ·cases hx
   ·cases hx
  ·cases hx
 ·cases hx
theorem stN_sound (s : SR M β h t tA) {m : Nat} {x y : Operand} (hx : stN m t x y = some t1) : Sound M β h tA ((writeV h (some m) (Ev tA x) (Ev tA y)).map fun h' => (Go.undef, h')) .undef t1 := by
 have key : ∀ {b : Nat} {ca' : List Value} {k : Nat} {c : Option Nat}, β k c = some b → writeV h (some m) (Ev tA x) (Ev tA y) = some (h.set b (.mem false ca')) → SR M β (h.set b (.mem false ca')) t1 tA → Sound M β h tA ((writeV h (some m) (Ev tA x) (Ev tA y)).map fun h' => (Go.undef, h')) .undef t1 := by
  intro b ca' k c hb hw hs
  exact Sound.plain (by rw [hw]; rfl) (Fr.write hb) hs rfl trivial
 unfold stN at hx
 split at hx
 ·rename_i k off ps hp hy
  obtain ⟨b, hb, ha⟩ := plc_ok s hp
  obtain ⟨as, hya, hfa⟩ := fr_agg (ev_val s hy)
  split at hx
  ·rename_i hpl
   have hsz : as.size = m := by rw [← hpl, hfa.1, Array.length_toList]
   have hal : as.toList.length = m := by rw [Array.length_toList]; exact hsz
   split at hx
   ·rename_i cs hk
    obtain ⟨ca, h1, h2, h3, h4⟩ := at_box s hk hb
    split at hx
    ·rename_i hle
     have hw : writeV h (some m) (Ev tA x) (Ev tA y) = some (h.set b (.mem false (ca.take off ++ as.toList ++ ca.drop (off + m)))) := by rw [ha, hya]; exact write_many h2 (by omega) hsz
     obtain ⟨c1, c2⟩ := cvr_splice (off := off) h3 h4 hfa (by omega)
     rw [hal, hpl] at c1 c2
     split at hx
     ·injection hx with hx; subst hx
      refine key hb hw ?_
      rw [updT_eq]
      exact write_box s hk hb h2 h1 c1 c2 id (fun _ _ _ _ hu => hu)
     ·injection hx with hx; subst hx
      refine key hb hw ?_
      rw [setC_eq]
      exact write_box s hk hb h2 h1 c1 c2 (klC k) (fun i u a hi hu => klC_same hi hu)
    ·cases hx
   ·rename_i n s' cs hk
    obtain ⟨ca, h1, h2, h3, h4⟩ := at_own s hk hb
    split at hx
    ·rename_i hle
     injection hx with hx; subst hx
     have hw : writeV h (some m) (Ev tA x) (Ev tA y) = some (h.set b (.mem false (ca.take off ++ as.toList ++ ca.drop (off + m)))) := by rw [ha, hya]; exact write_many h2 (by rw [← h4.1]; exact hle) hsz
     have c1 := frs_splice (off := off) h4 hfa
     rw [hal, hpl] at c1
     refine key hb hw (write_own s hk hb h2 h1 ?_ c1)
     rw [h3]
     simp only [List.length_append, List.length_take, List.length_drop]
     omega
    ·cases hx
   ·cases hx
  ·cases hx
 ·rename_i k j off ps hp hy
  obtain ⟨b, hb, ha⟩ := plc_ok s hp
  obtain ⟨as, hya, hfa⟩ := fr_agg (ev_val s hy)
  split at hx
  ·rename_i hpl
   have hsz : as.size = m := by rw [← hpl, hfa.1, Array.length_toList]
   have hal : as.toList.length = m := by rw [Array.length_toList]; exact hsz
   split at hx
   ·rename_i cs hk
    split at hx
    ·rename_i n s' l hc
     obtain ⟨ca, h2, h3, h4⟩ := at_nest s hk hc hb
     split at hx
     ·rename_i hle
      injection hx with hx; subst hx
      have hw : writeV h (some m) (Ev tA x) (Ev tA y) = some (h.set b (.mem false (ca.take off ++ as.toList ++ ca.drop (off + m)))) := by rw [ha, hya]; exact write_many h2 (by rw [← h4.1]; exact hle) hsz
      have c1 := frs_splice (off := off) h4 hfa
      rw [hal, hpl] at c1
      refine key hb hw (write_nest s hk hc hb h2 ?_ c1)
      rw [h3]
      simp only [List.length_append, List.length_take, List.length_drop]
      omega
     ·cases hx
    ·cases hx
   ·cases hx
  ·cases hx
 ·cases hx
end
end Go.Wb
namespace Go.Wb
open Go
section
variable {M : Nat → Prop} {β β1 : Bt} {h h' : Heap} {t t1 : TT} {tA : T} {r : Option (Value × Heap)} {v : TV} {a : Value}
structure Taken (M : Nat → Prop) (β : Bt) (h : Heap) (tA : T) (n s : Nat) (cs : List PV) (t' : TT) (a : Value) (X : Nat → Prop) (β1 : Bt) (ob : Option Nat) : Prop where
 sr : SR (fun b => M b ∨ X b) β1 h t' tA
 own : OwnAt h (NF (fun b => M b ∨ X b) β1) ob n s cs a
 ob : ∀ b, ob = some b → X b ∧ ¬ M b
 x : ∀ b, X b → ∃ k c, β k c = some b
 sub : ∀ k c b, β1 k c = some b → β k c = some b
theorem sub_setB {k : Nat} {q : Option Nat → Option Nat} (hq : ∀ c b, q c = some b → β k c = some b) : ∀ k' c b, setB β k q k' c = some b → β k' c = some b := by
 intro k' c b hb
 unfold setB at hb
 split at hb
 ·rename_i e; subst e; exact hq c b hb
 ·exact hb
theorem take_root (s : SR M β h t tA) {k n s' : Nat} {cs : List PV} (hk : t k = .own n s' cs) {a : Value} (ha : (n = 0 ∧ cs = [] ∧ a = .slice none 0 0) ∨ ∃ b ca, β k none = some b ∧ a = .slice (some ⟨b, 0, none⟩) n s' ∧ h[b]? = some (Blk.mem false ca) ∧ n * s' = cs.length ∧ FRs h (NF M β) cs ca) :
 ∃ X β1 ob, Taken M β h tA n s' cs (setR t k .undef) a X β1 ob := by
 rcases ha with ⟨h1, h2, h3⟩ | ⟨b, ca, h1, h2, h3, h4, h5⟩
 ·exact ⟨_, _, none, s.dropR k, .inl ⟨rfl, h1, h2, h3⟩, by simp, fun b ⟨c, hc⟩ => ⟨k, c, hc⟩, sub_setB (by simp)⟩
 ·exact ⟨_, _, some b, s.dropR k, .inr ⟨b, ca, rfl, h2, h3, h4, h5.keep (Keeps.less nf_dropR)⟩, fun b' hb' => by injection hb' with hb'; subst hb'; exact ⟨⟨none, h1⟩, (s.lt _ _ _ h1).2⟩, fun b ⟨c, hc⟩ => ⟨k, c, hc⟩, sub_setB (by simp)⟩
theorem takeOwn_ok (s : SR M β h t tA) {x : Operand} {n s' : Nat} {cs : List PV} {t' : TT} {size : Nat} (hx : takeOwn size t x = some (n, s', cs, t')) : ∃ X β1 ob, Taken M β h tA n s' cs t' (Ev tA x) X β1 ob := by
 unfold takeOwn at hx
 split at hx
 ·rename_i i
  have htr := s.tr i
  split at hx
  ·rename_i n' s2 cs' hi
   injection hx with hx; injection hx with e1 hx; injection hx with e2 hx; injection hx with e3 e4
   subst e1 e2 e3 e4
   rw [hi] at htr
   refine take_root s hi ?_
   rcases htr with ⟨_, h1, h2, h3⟩ | ⟨b, ca, h1, h2, h3, h4, h5⟩
   ·exact .inl ⟨h1, h2, h3⟩
   ·exact .inr ⟨b, ca, h1, h2, h3, h4, h5⟩
  ·rename_i hi
   injection hx with hx; injection hx with e1 hx; injection hx with e2 hx; injection hx with e3 e4
   subst e1 e2 e3 e4
   have he : Ev tA (.tmp i) = .slice none 0 0 := (ev_sc s (x := .tmp i) hi).1
   have hM : (fun b => M b ∨ (fun _ : Nat => False) b) = M := by funext b; simp
   exact ⟨fun _ => False, β, none, by rw [hM]; exact s, by rw [hM]; exact .inl ⟨rfl, rfl, rfl, he⟩, fun b hb => (by cases hb), fun b hb => hb.elim, fun _ _ _ hb => hb⟩
  ·rename_i k m s2 hi
   split at hx
   ·rename_i n' s3 cs' hk
    split at hx
    ·rename_i hc
     injection hx with hx; injection hx with e1 hx; injection hx with e2 hx; injection hx with e3 e4
     obtain ⟨c1, c2⟩ := hc
     subst e1 e2 e3 e4 c1 c2
     rw [hi] at htr
     have hroot := s.tr k
     rw [hk] at hroot
     refine take_root s hk ?_
     rcases htr with ⟨_, h0, h1⟩ | ⟨b, h0, h1⟩
     ·refine .inl ⟨h0, ?_, h1⟩
      rcases hroot with ⟨_, _, h2, _⟩ | ⟨_, _, _, _, _, h4, _⟩
      ·exact h2
      ·rw [h0, Nat.zero_mul] at h4; exact List.length_eq_zero_iff.1 h4.symm
     ·obtain ⟨ca, g1, g2, g3, g4⟩ := at_own s hk h0
      exact .inr ⟨b, ca, h0, h1, g2, g3, g4⟩
    ·cases hx
   ·cases hx
  ·rename_i k j m s2 hi
   split at hx
   ·rename_i bs hk
    split at hx
    ·rename_i n' s3 cs' hj
     split at hx
     ·rename_i hc
      injection hx with hx; injection hx with e1 hx; injection hx with e2 hx; injection hx with e3 e4
      obtain ⟨c1, c2⟩ := hc
      subst e1 e2 e3 e4 c1 c2
      rw [hi] at htr
      have hroot := s.tr k
      rw [hk] at hroot
      obtain ⟨b0, ca0, g1, g2, g3, g4, g5⟩ := hroot
      obtain ⟨hjl, hown⟩ := cell_own g5 hj
      let keep : Option Nat → Bool := fun c => decide (c ≠ some j)
      have hkeep : keep none = true := rfl
      have hs := s.set0.drop k keep (.box (bs.set j .gone)) ?_ (klC k) (fun i u a hi hu => klC_tr (by simp [hkeep]) hi hu)
      ·have hX : ∀ b, (False ∨ ∃ c, keep c = false ∧ β k c = some b) ↔ β k (some j) = some b := by
        intro b
        constructor
        ·rintro (hf | ⟨c, h1, h2⟩)
         ·exact hf.elim
         ·have : c = some j := by simpa [keep] using h1
          rw [← this]; exact h2
        ·intro hb
         exact .inr ⟨some j, by simp [keep], hb⟩
       have hnf : ∀ b, NF (fun b => M b ∨ (False ∨ ∃ c, keep c = false ∧ β k c = some b)) (setB β k fun c => if keep c then β k c else none) b → NF M β b := by
        rintro b ((hm | hx) | ⟨k', c, hc⟩)
        ·exact .inl hm
        ·exact .inr ⟨k, some j, (hX b).1 hx⟩
        ·exact .inr ⟨k', c, sub_setB (fun c b hb => by split at hb; exact hb; cases hb) _ _ _ hc⟩
       rcases htr with ⟨_, h0, h1⟩ | ⟨b, h0, h1⟩
       ·refine ⟨_, _, none, hs, .inl ⟨rfl, h0, ?_, h1⟩, by simp, fun b hb => ⟨k, some j, (hX b).1 hb⟩, sub_setB (fun c b hb => by split at hb; exact hb; cases hb)⟩
        rcases hown with ⟨_, _, h2, _⟩ | ⟨_, _, _, _, _, h4, _⟩
        ·exact h2
        ·rw [h0, Nat.zero_mul] at h4; exact List.length_eq_zero_iff.1 h4.symm
       ·obtain ⟨ca, q2, q3, q4⟩ := at_nest s hk hj h0
        exact ⟨_, _, some b, hs, .inr ⟨b, ca, rfl, h1, q2, q3, q4.keep (Keeps.less hnf)⟩, fun b' hb' => by injection hb' with hb'; subst hb'; exact ⟨(hX _).2 h0, (s.lt _ _ _ h0).2⟩, fun b hb => ⟨k, some j, (hX b).1 hb⟩, sub_setB (fun c b hb => by split at hb; exact hb; cases hb)⟩
      ·refine ⟨b0, ca0, by rw [setB_same]; simpa [hkeep] using g1, g2, g3, by rw [List.length_set]; exact g4, ?_⟩
       rw [setB_same]
       have g6 : ∀ i', i' < bs.length → CVR (β k) h (NF (fun b => M b ∨ False) β) i' (bs.getD i' .gone) (ca0.getD i' Go.undef) := by simpa using g5
       intro i' hi'
       have := cvr_set1 (j := j) (c := .gone) g6 trivial i' hi'
       cases hci : (bs.set j CV.gone).getD i' .gone with
       | v p => rw [hci] at this; exact this
       | gone => trivial
       | o n s cs =>
         rw [hci] at this
         have hne : i' ≠ j := by
          intro he
          subst he
          rw [List.length_set] at hi'
          simp [List.getD, hi'] at hci
         simp only [CVR] at this ⊢
         have e : (if keep (some i') = true then β k (some i') else none) = β k (some i') := by rw [if_pos (by simpa [keep] using hne)]
         rw [e]; exact this
     ·cases hx
    ·cases hx
   ·cases hx
  ·cases hx
 ·cases hx
theorem app_sound (s : SR M β h t tA) {size bytes : Nat} {x y : Operand} (hx : appW size bytes t x y = some (v, t1)) : Sound M β h tA (aAppend h size bytes (Ev tA x) (Ev tA y)) v t1 := by
 unfold appW at hx
 split at hx
 ·cases hx
 ·rename_i m new hsrc
  obtain ⟨na, q1, q2, q3, q4⟩ := srcP_ok s hsrc
  split at hx
  ·cases hx
  ·rename_i n s' cs t' ht
   obtain ⟨X, β1, ob, tk⟩ := takeOwn_ok s ht
   split at hx
   ·rename_i hc
    obtain ⟨c1, c2⟩ := hc
    injection hx with hx; injection hx with e1 e2; subst e1 e2 c1
    have hnf : ∀ b, NF (fun b => M b ∨ X b) β1 b → NF M β b := by
     rintro b ((hm | hxx) | ⟨k', c, hc⟩)
     ·exact .inl hm
     ·obtain ⟨k, c, hk⟩ := tk.x b hxx
      exact .inr ⟨k, c, hk⟩
     ·exact .inr ⟨k', c, tk.sub _ _ _ hc⟩
    have hXof : ∀ b, X b → h.length ≤ b ∨ ∃ k c, β k c = some b := fun b hb => .inr (tk.x b hb)
    have fr0 : Fr β h β1 h := Fr.less fun k c b hb => ⟨k, c, tk.sub _ _ _ hb⟩
    unfold aAppend
    rw [q1, q2]
    by_cases h0 : m = 0
    ·subst h0
     have hnew : new = [] := by
      have : new.length = 0 := by rw [← q3, Nat.zero_mul]
      exact List.length_eq_zero_iff.1 this
     subst hnew
     have done : Sound M β h tA (some (Ev tA x, h)) (.own (n + 0) s' (cs ++ [])) t' := by
      rw [Nat.add_zero, List.append_nil]
      refine Sound.root rfl fr0 tk.sr (fun c => if c = none then ob else none) ?_ ?_ hXof rfl tk.own
      ·intro c b hb
       split at hb
       ·exact tk.ob b hb
       ·cases hb
      ·intro c c' b h1 h2
       split at h1 <;> split at h2 <;> simp_all
     rcases tk.own with ⟨_, _, _, ea⟩ | ⟨b, ca, e1, ea, e3, e4, e5⟩
     ·rw [ea] at done ⊢; exact done
     ·rw [ea] at done ⊢
      simp only [if_true]
      exact done
    ·have new_block : ∀ (h1 : Heap) (cells : List Value), h1.length = h.length → (∀ b, b < h.length → ¬ X b → h1[b]? = h[b]?) → FRs h (NF (fun b => M b ∨ X b) β1) (cs ++ new) cells → (n + m) * s' = (cs ++ new).length →
      Sound M β h tA (some (.slice (some ⟨h1.length, 0, none⟩) (n + m) s', newBlk h1 cells)) (.own (n + m) s' (cs ++ new)) t' := by
      intro h1 cells hl hsame hf hlen
      have hnl : (newBlk h1 cells).length = h.length + 1 := by simp [newBlk, hl]
      have hold : ∀ b, b < h.length → ¬ X b → (newBlk h1 cells)[b]? = h[b]? := fun b hb hxx => by
       simp only [newBlk]; rw [List.getElem?_append_left (by omega)]; exact hsame b hb hxx
      have s1 := tk.sr.heap (h' := newBlk h1 cells) (Y := fun b => b = h.length) (by omega) hold (fun b hb => .inr (by subst hb; omega))
      refine Sound.root rfl ⟨by omega, fun b hb hn => hold b hb fun hxx => ?_, fun k c b hb => .inr ⟨k, c, tk.sub _ _ _ hb⟩⟩ s1 (fun c => if c = none then some h.length else none) ?_ ?_ (fun b hb => .inl (by have hb : b = h.length := hb; omega)) rfl ?_
      ·obtain ⟨k, c, hk⟩ := tk.x b hxx
       exact hn k c hk
      ·intro c b hb
       split at hb
       ·injection hb with hb
        exact ⟨hb.symm, fun hm => by have := s.mlt b hm; omega⟩
       ·cases hb
      ·intro c c' b h1 h2
       split at h1 <;> split at h2 <;> simp_all
      ·refine .inr ⟨h.length, cells, by simp, by rw [hl], ?_, hlen, hf.keep ?_⟩
       ·rw [← hl]; simp [newBlk]
       ·intro b ro ca' g1 g2
        have hb : b < h.length := get_lt g2
        have hxx : ¬ X b := fun hxx => g1 (.inl (.inr hxx))
        refine ⟨?_, by rw [hold b hb hxx]; exact g2⟩
        rintro ((hm | hy) | ho)
        ·exact g1 (.inl (.inl hm))
        ·have hy : b = h.length := hy
         omega
        ·exact g1 (.inr ho)
     have hnewf : FRs h (NF (fun b => M b ∨ X b) β1) new na := q4.keep (Keeps.less hnf)
     rcases tk.own with ⟨_, e1, e2, ea⟩ | ⟨b, ca, e1, ea, e3, e4, e5⟩
     ·rw [ea]
      simp only [h0, if_false]
      subst e1 e2
      rw [Nat.zero_add] at c2
      rw [if_pos c2]
      have := new_block h na rfl (fun _ _ _ => rfl) (by simpa using hnewf) (by simpa using q3)
      simpa using this
     ·rw [ea]
      simp only [if_true, h0, if_false, e3]
      rw [if_pos ⟨by rw [← e5.1]; omega, c2⟩]
      have := new_block (h.set b .dead) ((ca.drop 0).take (n * s') ++ na) (by simp) (fun b' hb' hxx => by
       have hne : b ≠ b' := fun he => hxx (he ▸ (tk.ob b e1).1)
       rw [List.getElem?_set_ne hne]) (by
       rw [List.drop_zero, List.take_of_length_le (by rw [← e5.1]; omega)]
       exact frs_append e5 hnewf) (by rw [List.length_append, Nat.add_mul, e4, q3])
      simpa using this
   ·cases hx
theorem plcS_ok (s : SR M β h t tA) {x : Operand} {k off n s' : Nat} {c : Option Nat} (hx : plcS t x = some (k, c, off, n, s')) : TR β h (NF M β) 0 (.slc k c off n s') (Ev tA x) := by
 unfold plcS at hx
 split at hx
 ·rename_i i
  have htr := s.tr i
  split at hx
  ·rename_i n' s2 cs hi
   injection hx with hx; injection hx with e1 hx; injection hx with e2 hx; injection hx with e3 hx; injection hx with e4 e5
   subst e1 e2 e3 e4 e5
   rw [hi] at htr
   rcases htr with ⟨h0, h1, _, h3⟩ | ⟨b, ca, h1, h2, _⟩
   ·exact .inl ⟨h0, h1, h3⟩
   ·exact .inr ⟨b, h1, h2⟩
  ·rename_i k' c' off' n' s2 hi
   injection hx with hx; injection hx with e1 hx; injection hx with e2 hx; injection hx with e3 hx; injection hx with e4 e5
   subst e1 e2 e3 e4 e5
   rw [hi] at htr
   exact htr
  ·cases hx
 ·cases hx
theorem copy_sound (s : SR M β h t tA) {size : Nat} {x y : Operand} (hx : copyW size t x y = some (v, t1)) : Sound M β h tA (aCopy h size (Ev tA x) (Ev tA y)) v t1 := by
 unfold copyW at hx
 split at hx
 ·rename_i k c off n s' m new hp hsrc
  obtain ⟨na, q1, q2, q3, q4⟩ := srcP_ok s hsrc
  have hpl := plcS_ok s hp
  split at hx
  ·rename_i hss
   subst hss
   rw [Option.map_eq_some_iff] at hx
   obtain ⟨t2, hw, hx⟩ := hx
   injection hx with e1 e2; subst e1 e2
   have hmin : Nat.min m n ≤ m := Nat.min_le_left _ _
   have hmin2 : Nat.min m n ≤ n := Nat.min_le_right _ _
   have hmul : Nat.min m n * s' ≤ m * s' := Nat.mul_le_mul_right _ hmin
   have htl : (new.take (Nat.min m n * s')).length = Nat.min m n * s' := by rw [List.length_take]; omega
   have htf := frs_take q4 (Nat.min m n * s')
   have plainR : ∀ {h2 : Heap}, Fr β h β h2 → SR M β h2 t2 tA → aCopy h s' (Ev tA x) (Ev tA y) = some (.int .i64 (Nat.min m n : Nat), h2) → Sound M β h tA (aCopy h s' (Ev tA x) (Ev tA y)) (.val (.sc (.int .i64 (Nat.min m n : Nat)))) t2 :=
    fun fr hs he => Sound.plain he fr hs rfl (FR.sc _ rfl)
   unfold wrSlc at hw
   split at hw
   ·rename_i n' s2 cs hk
    split at hw
    ·rename_i hc
     obtain ⟨hs2, hle, hnl⟩ := hc
     injection hw with hw; subst hw hs2
     rcases hpl with ⟨_, z0, z1⟩ | ⟨b, hb, ha⟩
     ·subst z0
      have hm0 : Nat.min m 0 = 0 := Nat.min_zero _
      have e : updT t k (.own n' s2 (cs.take off ++ new.take (Nat.min m 0 * s2) ++ cs.drop (off + (new.take (Nat.min m 0 * s2)).length))) = t := by
       rw [hm0]
       funext i; unfold updT; split
       ·rename_i hi; subst hi; simp [hk]
       ·rfl
      rw [e]
      rw [e] at plainR
      refine plainR Fr.refl s ?_
      rw [hm0]
      unfold aCopy
      rw [z1]
      simp only [q1]
      rfl
     ·obtain ⟨ca, g1, g2, g3, g4⟩ := at_own s hk hb
      have hca : aCopy h s2 (Ev tA x) (Ev tA y) = if Nat.min m n = 0 then some (.int .i64 0, h) else (writeN h b off (na.take (Nat.min m n * s2))).map fun h' => (.int .i64 (Nat.min m n : Nat), h') := by
       unfold aCopy
       rw [ha]
       simp only [if_true, q1, q2]
      by_cases hm0 : Nat.min m n = 0
      ·rw [if_pos hm0] at hca
       have e : updT t k (.own n' s2 (cs.take off ++ new.take (Nat.min m n * s2) ++ cs.drop (off + (new.take (Nat.min m n * s2)).length))) = t := by
        rw [hm0]
        funext i; unfold updT; split
        ·rename_i hi; subst hi; simp [hk]
        ·rfl
       rw [e] at plainR ⊢
       exact plainR Fr.refl s (by rw [hca, hm0]; rfl)
      ·rw [if_neg hm0] at hca
       have hwr : writeN h b off (na.take (Nat.min m n * s2)) = some (h.set b (.mem false (ca.take off ++ na.take (Nat.min m n * s2) ++ ca.drop (off + (na.take (Nat.min m n * s2)).length)))) := by
        simp only [writeN, g2]
        rw [if_pos (by rw [← htf.1, htl, ← g4.1]; have := Nat.mul_le_mul_right s2 hmin2; omega)]
       rw [hwr, Option.map_some] at hca
       have hcs := frs_splice (off := off) g4 htf
       refine plainR (Fr.write hb) (write_own s hk hb g2 g1 ?_ hcs) hca
       rw [g3]
       simp only [List.length_append, List.length_take, List.length_drop] at hnl ⊢
       have := Nat.mul_le_mul_right s2 hmin2
       omega
    ·cases hw
   ·rename_i cs hk
    split at hw
    ·rename_i hc
     obtain ⟨hle, hnl, _⟩ := hc
     injection hw with hw; subst hw
     rcases hpl with ⟨_, z0, z1⟩ | ⟨b, hb, ha⟩
     ·subst z0
      have hm0 : Nat.min m 0 = 0 := Nat.min_zero _
      have e : updT t k (.box (cs.take off ++ (new.take (Nat.min m 0 * s')).map .v ++ cs.drop (off + (new.take (Nat.min m 0 * s')).length))) = t := by
       rw [hm0]
       funext i; unfold updT; split
       ·rename_i hi; subst hi; simp [hk]
       ·rfl
      rw [e]
      rw [e] at plainR
      refine plainR Fr.refl s ?_
      rw [hm0]
      unfold aCopy
      rw [z1]
      simp only [q1]
      rfl
     ·obtain ⟨ca, g1, g2, g3, g4⟩ := at_box s hk hb
      have hca : aCopy h s' (Ev tA x) (Ev tA y) = if Nat.min m n = 0 then some (.int .i64 0, h) else (writeN h b off (na.take (Nat.min m n * s'))).map fun h' => (.int .i64 (Nat.min m n : Nat), h') := by
       unfold aCopy
       rw [ha]
       simp only [if_true, q1, q2]
      by_cases hm0 : Nat.min m n = 0
      ·rw [if_pos hm0] at hca
       have e : updT t k (.box (cs.take off ++ (new.take (Nat.min m n * s')).map .v ++ cs.drop (off + (new.take (Nat.min m n * s')).length))) = t := by
        rw [hm0]
        funext i; unfold updT; split
        ·rename_i hi; subst hi; simp [hk]
        ·rfl
       rw [e] at plainR ⊢
       exact plainR Fr.refl s (by rw [hca, hm0]; rfl)
      ·rw [if_neg hm0] at hca
       have hle2 : off + Nat.min m n * s' ≤ cs.length := by have := Nat.mul_le_mul_right s' hmin2; omega
       have hwr : writeN h b off (na.take (Nat.min m n * s')) = some (h.set b (.mem false (ca.take off ++ na.take (Nat.min m n * s') ++ ca.drop (off + (na.take (Nat.min m n * s')).length)))) := by
        simp only [writeN, g2]
        rw [if_pos (by rw [← htf.1, htl, ← g3]; exact hle2)]
       rw [hwr, Option.map_some] at hca
       obtain ⟨c1, c2⟩ := cvr_splice (off := off) g3 g4 htf (by rw [htl]; exact hle2)
       refine plainR (Fr.write hb) ?_ hca
       rw [updT_eq]
       exact write_box s hk hb g2 g1 c1 c2 id (fun _ _ _ _ hu => hu)
    ·cases hw
   ·cases hw
  ·cases hx
 ·cases hx
end
end Go.Wb
namespace Go.Wb
open Go
section
variable {M : Nat → Prop} {β β1 : Bt} {h h' : Heap} {t t1 : TT} {tA : T} {v : TV}
theorem scVals_ok {N : Nat → Prop} : ∀ {l : List PV} {vs : List Value} {ca : List Value}, scVals l = some vs → FRs h N l ca → ca = vs
 | [], vs, ca, hx, hf => by
   simp only [scVals] at hx; injection hx with hx; subst hx
   exact List.length_eq_zero_iff.1 hf.1.symm
 | .sc u :: l, vs, ca, hx, hf => by
   simp only [scVals, Option.map_eq_some_iff] at hx
   obtain ⟨vs', h1, rfl⟩ := hx
   cases ca with
   | nil => have := hf.1; simp at this
   | cons c ca =>
     have h0 := hf.2 0 (by simp)
     simp only [List.getD_eq_getElem?_getD, List.getElem?_cons_zero, Option.getD_some] at h0
     cases h0
     have := scVals_ok (ca := ca) h1 ⟨by simpa using hf.1, fun i hi => by simpa using hf.2 (i + 1) (by simpa using hi)⟩
     rw [this]
 | .agg _ :: l, vs, ca, hx, hf => by simp [scVals] at hx
 | .sl _ _ :: l, vs, ca, hx, hf => by simp [scVals] at hx
theorem bytesOf_ok {N : Nat → Prop} : ∀ {l : List PV} {bs : List UInt8} {ca : List Value}, bytesOf l = some bs → FRs h N l ca → (ca.all fun v => match v with | .int .u8 _ => true | _ => false) = true ∧ ca.map (fun v => match v with | .int _ n => UInt8.ofNat n.toNat | _ => 0) = bs
 | [], bs, ca, hx, hf => by
   simp only [bytesOf] at hx; injection hx with hx; subst hx
   have := List.length_eq_zero_iff.1 hf.1.symm
   subst this; exact ⟨rfl, rfl⟩
 | p :: l, bs, ca, hx, hf => by
   simp only [bytesOf] at hx
   split at hx
   ·rename_i b r h1 h2
    injection hx with hx; subst hx
    cases ca with
    | nil => have := hf.1; simp at this
    | cons c ca =>
      have h0 := hf.2 0 (by simp)
      simp only [List.getD_eq_getElem?_getD, List.getElem?_cons_zero, Option.getD_some] at h0
      obtain ⟨q1, q2⟩ := bytesOf_ok (ca := ca) h2 ⟨by simpa using hf.1, fun i hi => by simpa using hf.2 (i + 1) (by simpa using hi)⟩
      unfold byteOf at h1
      split at h1
      ·injection h1 with h1; subst h1
       cases h0
       exact ⟨by rw [List.all_cons, q1]; rfl, by rw [List.map_cons, q2]⟩
      ·cases h1
   ·cases hx
theorem sla_src {x : Operand} {bs : List UInt8} (hs : ∃ n cs, SlA h (NF M β) n cs (Ev tA x) ∧ n = cs.length ∧ bytesOf cs = some bs) : ∃ ca, srcCells h 1 (Ev tA x) = some ca ∧ isStr (Ev tA x) = false ∧ (ca.all fun v => match v with | .int .u8 _ => true | _ => false) = true ∧ ca.map (fun v => match v with | .int _ n => UInt8.ofNat n.toNat | _ => 0) = bs := by
 obtain ⟨n, cs, h1, h2, h3⟩ := hs
 rcases h1 with ⟨rfl, rfl, e | ⟨b, o, s', e⟩⟩ | ⟨b, o, s', ro, ca, e, e3, e4, e5, e6⟩
 ·simp only [bytesOf] at h3; injection h3 with h3; subst h3
  rw [e]; exact ⟨[], rfl, rfl, rfl, rfl⟩
 ·simp only [bytesOf] at h3; injection h3 with h3; subst h3
  rw [e]; exact ⟨[], by simp [srcCells], rfl, rfl, rfl⟩
 ·rw [e]
  by_cases h0 : n = 0
  ·subst h0
   have : cs = [] := List.length_eq_zero_iff.1 h2.symm
   subst this
   simp only [bytesOf] at h3; injection h3 with h3; subst h3
   exact ⟨[], by simp [srcCells], rfl, rfl, rfl⟩
  ·have hss : s' = 1 := by
    have : n * s' = n * 1 := by omega
    exact Nat.eq_of_mul_eq_mul_left (by omega) this
   subst hss
   have hf : FRs h (NF M β) cs ((ca.drop o).take (n * 1)) := ⟨by rw [List.length_take, List.length_drop]; omega, fun i hi => by rw [take_drop_getD (by omega)]; exact e6 i hi⟩
   obtain ⟨q1, q2⟩ := bytesOf_ok h3 hf
   refine ⟨_, ?_, rfl, q1, q2⟩
   simp only [srcCells, if_neg h0, if_true, readN, e3]
   rw [if_pos (by omega)]
theorem path_sound (s : SR M β h t tA) {x : Operand} (g : Nat → Nat) (hx : (match EvT t x with | .pf cs o => some (TV.pf cs (g o), t) | _ => (plc t x).map fun p => (TV.ref p.1 p.2.1 (g p.2.2), t)) = some (v, t1)) (hg : ∀ o off, g (o + off) = o + g off) :
 t1 = t ∧ isRoot v = false ∧ ∃ b o, Ev tA x = .pointer (some ⟨b, o, none⟩) ∧ TR β h (NF M β) 0 v (.pointer (some ⟨b, g o, none⟩)) := by
 split at hx
 ·rename_i cs o he
  injection hx with hx; injection hx with e1 e2; subst e1 e2
  obtain ⟨b, o', ro, ca, q1, q2, q3, q4, q5⟩ := ev_pf s he
  exact ⟨rfl, rfl, b, o' + o, q1, b, o', ro, ca, by rw [hg], q2, q3, q4, q5⟩
 ·rw [Option.map_eq_some_iff] at hx
  obtain ⟨⟨k, c, off⟩, hp, hx⟩ := hx
  injection hx with e1 e2; subst e1 e2
  obtain ⟨b, hb, ha⟩ := plc_ok s hp
  exact ⟨rfl, rfl, b, off, ha, b, hb, rfl⟩
theorem op_sound' (s : SR M β h t tA) {rr : Bool} {ann : List (Nat × Nat)} {op : AOp} (hx : opW rr ann op t = some (v, t1)) : Sound M β h tA (aOp op tA h) v t1 := by
 unfold opW at hx
 split at hx
 ·rename_i hsc
  split at hx
  ·rename_i u hh hu
   split at hx
   ·rename_i hs
    injection hx with hx; injection hx with e1 e2; subst e1 e2
    exact Sound.plain (sc_sound s hsc hu hs) Fr.refl s rfl (FR.sc _ (by simp [scalN, hs]))
   ·cases hx
  ·cases hx
 ·rename_i hsc
  cases op <;> first | (exact absurd rfl hsc; done) | skip
  all_goals simp only at hx
  case move x => exact mv_sound s hx
  case const c =>
   rw [Option.map_eq_some_iff] at hx
   obtain ⟨p, hp, hx⟩ := hx
   injection hx with e1 e2; subst e1 e2
   exact Sound.plain rfl Fr.refl s rfl (pvC_fr hp)
  case box x =>
   split at hx
   ·rename_i p he
    injection hx with hx; injection hx with e1 e2; subst e1 e2
    obtain ⟨h1, h2⟩ := frs_cells (ev_val s he)
    refine Sound.new (a := .pointer (some ⟨h.length, 0, none⟩)) (cells := valCells (Ev tA _)) (by simp only [aOp, h2, if_true]; rfl) s rfl fun N hk hg => ?_
    have h3 := hk _ _ h1
    exact ⟨h.length, _, by simp, rfl, hg, by rw [List.length_map]; exact h1.1, fun j hj => by
     rw [List.length_map] at hj
     rw [map_v_getD hj]
     exact h3.2 j hj⟩
   ·rename_i i n s' cs he
    injection hx with hx; injection hx with e1 e2; subst e1 e2
    have htr := s.tr i
    have hi : t i = .own n s' cs := he
    rw [hi] at htr
    have hcells : isTuple (tA i) = false ∧ valCells (tA i) = [tA i] := by
     rcases htr with ⟨_, _, _, e⟩ | ⟨_, _, _, e, _⟩ <;> rw [e] <;> exact ⟨rfl, rfl⟩
    have hlen : (newBlk h [tA i]).length = h.length + 1 := by simp [newBlk]
    have hold : ∀ b, b < h.length → (newBlk h [tA i])[b]? = h[b]? := fun b hb => by simp only [newBlk]; rw [List.getElem?_append_left hb]
    have s1 := (s.dropR i).heap (h' := newBlk h [tA i]) (Y := fun b => (∃ c, β i c = some b) ∨ b = h.length) (by omega) (fun b hb _ => hold b hb) (fun b hb => by
     rcases hb with hb | hb
     ·exact .inl hb
     ·exact .inr (by subst hb; omega))
    have fr : Fr β h (setB β i fun _ => none) (newBlk h [tA i]) := ⟨by omega, fun b hb _ => hold b hb, fun k c b hb => .inr ⟨k, c, sub_setB (by simp) k c b hb⟩⟩
    refine Sound.root (a := .pointer (some ⟨h.length, 0, none⟩)) (by simp only [aOp, Ev, hcells.1, if_true, hcells.2]) fr s1 (fun c => if c = none then some h.length else if c = some 0 then β i none else none) ?_ ?_ ?_ rfl ?_
    ·intro c b hb
     split at hb
     ·injection hb with hb
      exact ⟨.inr hb.symm, fun hm => by have := s.mlt b hm; omega⟩
     ·split at hb
      ·exact ⟨.inl ⟨none, hb⟩, (s.lt _ _ _ hb).2⟩
      ·cases hb
    ·intro c c' b h1 h2
     have hlt := fun hb => (s.lt i none b hb).1
     split at h1 <;> split at h2 <;> (try split at h1) <;> (try split at h2) <;> simp_all <;> omega
    ·rintro b (⟨c, hc⟩ | hb)
     ·exact .inr ⟨i, c, hc⟩
     ·exact .inl (by omega)
    ·refine ⟨h.length, [tA i], by simp, rfl, by simp [newBlk], rfl, fun j hj => ?_⟩
     have : j = 0 := by simpa using hj
     subst this
     show OwnAt _ _ (if some 0 = none then some h.length else if some 0 = some 0 then β i none else none) _ _ _ _
     rw [if_neg (by simp), if_pos rfl]
     refine OwnAt.keep htr ?_ fun b hb => hold b (s.lt _ _ _ hb).1
     intro b ro ca q1 q2
     refine ⟨?_, by rw [hold b (get_lt q2)]; exact q2⟩
     rintro ((hm | ⟨c, hc⟩ | hb) | ⟨k, c, hc⟩)
     ·exact q1 (.inl hm)
     ·exact q1 (.inr ⟨i, c, hc⟩)
     ·have := get_lt q2; omega
     ·exact q1 (.inr ⟨k, c, sub_setB (by simp) k c b hc⟩)
   ·cases hx
  case alloc z =>
   rw [Option.map_eq_some_iff] at hx
   obtain ⟨cs, hz, hx⟩ := hx
   injection hx with e1 e2; subst e1 e2
   refine Sound.new (cells := z) rfl s rfl fun N hk hg => ?_
   obtain ⟨q1, q2⟩ := zcv_ok (h := newBlk h z) (N := N) (β' := fun c => if c = none then some h.length else none) (by simp) hz
   exact ⟨h.length, _, by simp, rfl, hg, q1, fun j hj => q2 j hj j⟩
  case build z ps =>
   split at hx
   ·rename_i l hz
    rw [Option.map_eq_some_iff] at hx
    obtain ⟨cs, hf, hx⟩ := hx
    injection hx with e1 e2; subst e1 e2
    obtain ⟨la, q1, q2, q3⟩ := fillP_ok s (pvZs_frs hz) hf
    exact Sound.plain (by simp only [aOp, q1, Option.map_some]) Fr.refl s rfl (frs_agg q2)
   ·cases hx
  case buildSlice size n z ps =>
   split at hx
   ·rename_i l hz
    split at hx
    ·rename_i cs hf
     split at hx
     ·rename_i hl
      injection hx with hx; injection hx with e1 e2; subst e1 e2
      obtain ⟨la, q1, q2, q3⟩ := fillP_ok s (frs_rep (pvCs_frs hz) n) hf
      exact Sound.newOwn (cells := la) (by simp only [aOp, q1, Option.map_some]) s hl.symm q2
     ·cases hx
    ·cases hx
   ·cases hx
  case load n x =>
   cases n with
   | none =>
     rw [Option.map_eq_some_iff] at hx
     obtain ⟨u, hu, hx⟩ := hx
     injection hx with e1 e2; subst e1 e2
     obtain ⟨hr, a, q1, q2⟩ := ld1_sound s hu
     exact Sound.plain (by simp only [aOp, q1, Option.map_some]) Fr.refl s hr q2
   | some m => exact ldN_sound s hx
  case store n x y =>
   cases n with
   | none =>
     rw [Option.map_eq_some_iff] at hx
     obtain ⟨u, hu, hx⟩ := hx
     injection hx with e1 e2; subst e1 e2
     exact st1_sound s hu
   | some m =>
     rw [Option.map_eq_some_iff] at hx
     obtain ⟨u, hu, hx⟩ := hx
     injection hx with e1 e2; subst e1 e2
     exact stN_sound s hu
  case nilCheck x =>
   obtain ⟨rfl, hr, b, o, q1, q2⟩ := path_sound s (g := fun o => o) hx (fun _ _ => rfl)
   exact Sound.plain (by simp only [aOp, q1]) Fr.refl s hr q2
  case eqv neg ks x y =>
   split at hx
   ·rename_i a b h1 h2
    split at hx
    ·rename_i la lb h3 h4
     rw [Option.map_eq_some_iff] at hx
     obtain ⟨u, hu, hx⟩ := hx
     injection hx with e1 e2; subst e1 e2
     obtain ⟨aa, e1, f1⟩ := fr_agg (ev_val s h1)
     obtain ⟨ab, e2, f2⟩ := fr_agg (ev_val s h2)
     have g1 := scVals_ok h3 f1
     have g2 := scVals_ok h4 f2
     exact Sound.plain (by simp only [aOp, e1, e2, aEq, g1, g2, hu, Option.map_some]) Fr.refl s rfl (FR.sc _ rfl)
    ·cases hx
   ·cases hx
  case nilv neg x =>
   split at hx
   ·rename_i n hn
    split at hx
    ·rename_i h0
     injection hx with hx; injection hx with e1 e2; subst e1 e2
     obtain ⟨p, s', e⟩ := (slLen_ok s hn).2 h0
     exact Sound.plain (by simp only [aOp, e]) Fr.refl s rfl (FR.sc _ rfl)
    ·cases hx
   ·cases hx
  case len x =>
   rw [Option.map_eq_some_iff] at hx
   obtain ⟨n, hn, hx⟩ := hx
   injection hx with e1 e2; subst e1 e2
   obtain ⟨p, s', e⟩ := (slLen_ok s hn).1
   exact Sound.plain (by simp only [aOp, e]) Fr.refl s rfl (FR.sc _ rfl)
  case strBytes x =>
   split at hx
   ·rename_i str he
    injection hx with hx; injection hx with e1 e2; subst e1 e2
    obtain ⟨e, _⟩ := ev_sc s he
    refine Sound.newOwn (cells := str.data.toList.map fun b => .int .u8 b.toNat) (by simp only [aOp, e]) s (by rw [Nat.mul_one, List.length_map, Array.length_toList]; rfl) ⟨by rw [List.length_map, List.length_map], fun i hi => ?_⟩
    rw [List.length_map] at hi
    simp only [List.getD_eq_getElem?_getD, List.getElem?_map, List.getElem?_eq_getElem hi, Option.map_some, Option.getD_some]
    exact .sc _ rfl
   ·cases hx
  case bytesStr x =>
   split at hx
   ·rename_i n cs hsl
    split at hx
    ·rename_i hn
     rw [Option.map_eq_some_iff] at hx
     obtain ⟨l, hl, hx⟩ := hx
     injection hx with e1 e2; subst e1 e2
     obtain ⟨ca, q1, q2, q3, q4⟩ := sla_src (x := x) (bs := l) ⟨n, cs, slv_ok s hsl, hn, hl⟩
     refine Sound.plain (a := .string ⟨l.toArray⟩) ?_ Fr.refl s rfl (FR.sc _ rfl)
     simp only [aOp, q1]
     rw [if_pos ⟨q2, q3⟩, ← q4]
     rfl
    ·cases hx
   ·cases hx
  case makeSlice size bytes z l c =>
   split at hx
   ·rename_i zs k1 l' k2 c' h1 h2 h3
    split at hx
    ·rename_i hc
     injection hx with hx; injection hx with e1 e2; subst e1 e2
     obtain ⟨e1, _⟩ := ev_sc s h2
     obtain ⟨e2, _⟩ := ev_sc s h3
     refine Sound.newOwn (cells := repCells l'.toNat z) ?_ s (by rw [repP_len, hc.2.2.2]) (frs_rep (pvCs_frs h1) _)
     simp only [aOp, e1, e2]
     rw [if_pos ⟨hc.1, hc.2.1, hc.2.2.1⟩]
    ·cases hx
   ·cases hx
  case sliceSl size x lo hi =>
   split at hx
   ·rename_i n cs he
    split at hx
    ·rename_i hh hb1
     split at hx
     ·rename_i l hb2
      split at hx
      ·rename_i hn
       injection hx with hx; injection hx with e1 e2; subst e1 e2
       have g1 := bound_ok s hb1
       have g2 := bound_ok s hb2
       have hhn : hh ≤ n ∧ l ≤ hh := by
        have bd : ∀ {d m r : Nat} {o : Option Operand}, bound tA d m o = some r → r ≤ m := by
         intro d m r o hb
         unfold bound at hb
         split at hb
         ·split at hb
          ·injection hb with hb; omega
          ·cases hb
         ·split at hb
          ·split at hb
           ·injection hb with hb; omega
           ·cases hb
          ·cases hb
        exact ⟨bd g1, bd g2⟩
       have hlen : ((cs.drop (l * size)).take ((hh - l) * size)).length = (hh - l) * size := by
        rw [List.length_take, List.length_drop, ← hn]
        have : l * size + (hh - l) * size ≤ n * size := by rw [← Nat.add_mul]; exact Nat.mul_le_mul_right _ (by omega)
        omega
       have hle : l * size + (hh - l) * size ≤ n * size := by rw [← Nat.add_mul]; exact Nat.mul_le_mul_right _ (by omega)
       rcases fr_sl (ev_val s he) with ⟨rfl, rfl, e | ⟨b, o, s', e⟩⟩ | ⟨b, o, s', ro, ca, e, e3, e4, e5, e6⟩
       ·have z1 : hh = 0 := by omega
        have z2 : l = 0 := by omega
        subst z1 z2
        refine Sound.plain (a := .slice none 0 0) (by simp only [aOp, e, g1, g2]) Fr.refl s rfl ?_
        simp only [Nat.zero_mul, List.drop_nil, List.take_nil, Nat.sub_zero]
        exact FR.slNil
       ·have z1 : hh = 0 := by omega
        have z2 : l = 0 := by omega
        subst z1 z2
        refine Sound.plain (a := .slice (some ⟨b, o + 0 * size, none⟩) (0 - 0) s') ?_ Fr.refl s rfl ?_
        ·simp only [aOp, e]
         rw [if_pos (.inr trivial), g1]
         simp only
         rw [g2]
        ·simp only [Nat.zero_mul, List.drop_nil, List.take_nil, Nat.sub_zero]
         exact FR.slE _ _ _
       ·have hfr := ev_val s he
        rw [e] at hfr
        have hNb : ¬ NF M β b ∨ n = 0 := by
         cases hfr with
         | slE => exact .inr rfl
         | sl n s cs b o ro ca hn' _ _ _ _ => exact .inl hn'
        have hsz : s' = size ∨ n = 0 := by
         rcases Nat.eq_zero_or_pos n with h0 | h0
         ·exact .inr h0
         ·have : n * s' = n * size := by omega
          exact .inl (Nat.eq_of_mul_eq_mul_left h0 this)
        refine Sound.plain (a := .slice (some ⟨b, o + l * size, none⟩) (hh - l) s') ?_ Fr.refl s rfl ?_
        ·simp only [aOp, e]
         rw [if_pos hsz, g1]
         simp only
         rw [g2]
        ·by_cases hz : hh - l = 0
         ·rw [hz] at hlen ⊢
          rw [Nat.zero_mul, List.take_zero]
          exact FR.slE _ _ _
         ·have hn0 : n ≠ 0 := by omega
          have hs' : s' = size := by rcases hsz with h1 | h1; exact h1; exact absurd h1 hn0
          subst hs'
          have hNb' : ¬ NF M β b := by rcases hNb with h1 | h1; exact h1; exact absurd h1 hn0
          refine FR.sl _ _ _ b (o + l * s') ro ca hNb' e3 hlen.symm (by rw [hlen]; omega) fun i hi => ?_
          rw [hlen] at hi
          rw [take_drop_getD hi]
          have := e6 (l * s' + i) (by omega)
          rwa [← Nat.add_assoc] at this
      ·cases hx
     ·cases hx
    ·cases hx
   ·split at hx
    ·rename_i k c off n s' hp
     split at hx
     ·rename_i hss
      subst hss
      split at hx
      ·rename_i hh hb1
       split at hx
       ·rename_i l hb2
        injection hx with hx; injection hx with e1 e2; subst e1 e2
        have g1 := bound_ok s hb1
        have g2 := bound_ok s hb2
        rcases plcS_ok s hp with ⟨hb0, h0, e⟩ | ⟨b, hb, e⟩
        ·subst h0
         have bd : ∀ {d m r : Nat} {o : Option Operand}, bound tA d m o = some r → r ≤ m := by
          intro d m r o hb
          unfold bound at hb
          split at hb
          ·split at hb
           ·injection hb with hb; omega
           ·cases hb
          ·split at hb
           ·split at hb
            ·injection hb with hb; omega
            ·cases hb
           ·cases hb
         have z1 := bd g1
         have z2 := bd g2
         exact Sound.plain (by simp only [aOp, e, g1, g2]) Fr.refl s rfl (.inl ⟨hb0, by omega, rfl⟩)
        ·refine Sound.plain (a := .slice (some ⟨b, off + l * s', none⟩) (hh - l) s') ?_ Fr.refl s rfl (.inr ⟨b, hb, rfl⟩)
         simp only [aOp, e]
         rw [if_pos (.inl trivial), g1]
         simp only
         rw [g2]
       ·cases hx
      ·cases hx
     ·cases hx
    ·cases hx
  case sliceArr n size x lo hi =>
   have bd : ∀ {d m r : Nat} {o : Option Operand}, bound tA d m o = some r → r ≤ m := by
    intro d m r o hb
    unfold bound at hb
    split at hb
    ·split at hb
     ·injection hb with hb; omega
     ·cases hb
    ·split at hb
     ·split at hb
      ·injection hb with hb; omega
      ·cases hb
     ·cases hb
   split at hx
   ·rename_i cs off he
    split at hx
    ·rename_i hle
     split at hx
     ·rename_i hh hb1
      split at hx
      ·rename_i l hb2
       injection hx with hx; injection hx with e1 e2; subst e1 e2
       have g1 := bound_ok s hb1
       have g2 := bound_ok s hb2
       have z1 := bd g1
       have z2 := bd g2
       obtain ⟨b, o, ro, ca, q1, q2, q3, q4, q5⟩ := ev_pf s he
       have hle2 : l * size + (hh - l) * size ≤ n * size := by rw [← Nat.add_mul]; exact Nat.mul_le_mul_right _ (by omega)
       have hlen : ((cs.drop (off + l * size)).take ((hh - l) * size)).length = (hh - l) * size := by
        rw [List.length_take, List.length_drop]; omega
       refine Sound.plain (a := .slice (some ⟨b, o + off + l * size, none⟩) (hh - l) size) ?_ Fr.refl s rfl ?_
       ·simp only [aOp, q1, q3]
        rw [if_pos (by omega), g1]
        simp only
        rw [g2]
       ·by_cases hz : hh - l = 0
        ·rw [hz, Nat.zero_mul, List.take_zero]
         exact FR.slE _ _ _
        ·refine FR.sl _ _ _ b (o + off + l * size) ro ca q2 q3 hlen.symm (by rw [hlen]; omega) fun i hi => ?_
         rw [hlen] at hi
         rw [take_drop_getD hi]
         have := q5 (off + l * size + i) (by omega)
         rwa [← Nat.add_assoc, ← Nat.add_assoc] at this
      ·cases hx
     ·cases hx
    ·cases hx
   ·split at hx
    ·rename_i k off hp
     obtain ⟨b, hb, ha⟩ := plc_ok s hp
     split at hx
     ·rename_i cs hk
      obtain ⟨ca, h1, h2, h3, h4⟩ := at_box s hk hb
      split at hx
      ·rename_i hle
       split at hx
       ·rename_i hh hb1
        split at hx
        ·rename_i l hb2
         injection hx with hx; injection hx with e1 e2; subst e1 e2
         have g1 := bound_ok s hb1
         have g2 := bound_ok s hb2
         refine Sound.plain (a := .slice (some ⟨b, off + l * size, none⟩) (hh - l) size) ?_ Fr.refl s rfl (.inr ⟨b, hb, rfl⟩)
         simp only [aOp, ha, h2]
         rw [if_pos (by omega), g1]
         simp only
         rw [g2]
        ·cases hx
       ·cases hx
      ·cases hx
     ·cases hx
    ·cases hx
  case fieldAddr off x =>
   obtain ⟨rfl, hr, b, o, q1, q2⟩ := path_sound s (g := fun o => o + off) hx (fun _ _ => by omega)
   exact Sound.plain (by simp only [aOp, q1]) Fr.refl s hr q2
  case field n off x =>
   cases n with
   | none =>
     simp only at hx
     split at hx
     ·rename_i cs he
      rw [Option.map_eq_some_iff] at hx
      obtain ⟨p, hp, hx⟩ := hx
      injection hx with e1 e2; subst e1 e2
      obtain ⟨as, e, f⟩ := fr_agg (ev_val s he)
      obtain ⟨q1, q2⟩ := cellP_ok hp
      have := f.2 off q1
      rw [q2] at this
      exact Sound.plain (by simp only [aOp, e]; rw [getD_lt (d := Go.undef) (by rw [← f.1]; exact q1)]; rfl) Fr.refl s rfl this
     ·cases hx
   | some m =>
     simp only at hx
     split at hx
     ·rename_i cs he
      injection hx with hx; injection hx with e1 e2; subst e1 e2
      obtain ⟨as, e, f⟩ := fr_agg (ev_val s he)
      exact Sound.plain (by simp only [aOp, e]) Fr.refl s rfl (frs_agg (frs_take (frs_drop f off) m))
     ·cases hx
  case idxAddrArr n size x i =>
   split at hx
   ·rename_i k j hi
    split at hx
    ·rename_i hc
     obtain ⟨e, _⟩ := ev_sc s hi
     obtain ⟨rfl, hr, b, o, q1, q2⟩ := path_sound s (g := fun o => o + j.toNat * size) hx (fun _ _ => by omega)
     exact Sound.plain (by simp only [aOp, q1, e]; rw [if_pos hc]) Fr.refl s hr q2
    ·cases hx
   ·cases hx
  case idxAddrSl size x i =>
   split at hx
   ·rename_i k j hi
    obtain ⟨e, _⟩ := ev_sc s hi
    split at hx
    ·rename_i n cs he
     split at hx
     ·rename_i hc
      injection hx with hx; injection hx with e1 e2; subst e1 e2
      have hfr := ev_val s he
      have hsla := fr_sl hfr
      rcases hsla with ⟨h0, _⟩ | ⟨b, o, s', ro, ca, e2, e3, e4, e5, e6⟩
      ·omega
      ·rw [e2] at hfr
       have hNb : ¬ NF M β b := by
        cases hfr with
        | slE => omega
        | sl n s cs b o ro ca hn' _ _ _ _ => exact hn'
       have hss : s' = size := by
        have : n * s' = n * size := by omega
        exact Nat.eq_of_mul_eq_mul_left (by omega) this
       subst hss
       refine Sound.plain (a := .pointer (some ⟨b, o + j.toNat * s', none⟩)) ?_ Fr.refl s rfl ⟨b, o, ro, ca, rfl, hNb, e3, e5, e6⟩
       simp only [aOp, e2, e]
       rw [if_pos ⟨trivial, hc.1, hc.2.1⟩]
     ·cases hx
    ·split at hx
     ·rename_i k' c off n s' hp
      split at hx
      ·rename_i hc
       injection hx with hx; injection hx with e1 e2; subst e1 e2
       rcases plcS_ok s hp with ⟨_, h0, _⟩ | ⟨b, hb, e2⟩
       ·omega
       ·refine Sound.plain (a := .pointer (some ⟨b, off + j.toNat * size, none⟩)) ?_ Fr.refl s rfl ⟨b, hb, rfl⟩
        simp only [aOp, e2, e]
        rw [if_pos ⟨hc.2.2, hc.1, hc.2.1⟩]
      ·cases hx
     ·cases hx
   ·cases hx
  case slArr n size x =>
   split at hx
   ·rename_i m cs he
    split at hx
    ·rename_i hc
     injection hx with hx; injection hx with e1 e2; subst e1 e2
     have hfr := ev_val s he
     have hsla := fr_sl hfr
     rcases hsla with ⟨h0, _⟩ | ⟨b, o, s', ro, ca, e2, e3, e4, e5, e6⟩
     ·omega
     ·rw [e2] at hfr
      have hNb : ¬ NF M β b := by
       cases hfr with
       | slE => omega
       | sl n s cs b o ro ca hn' _ _ _ _ => exact hn'
      have hss : s' = size := by
       have : m * s' = m * size := by omega
       exact Nat.eq_of_mul_eq_mul_left (by omega) this
      subst hss
      refine Sound.plain (a := .pointer (some ⟨b, o, none⟩)) ?_ Fr.refl s rfl ⟨b, o, ro, ca, rfl, hNb, e3, e5, e6⟩
      simp only [aOp, e2]
      rw [if_pos ⟨trivial, hc.1, hc.2.1⟩]
    ·cases hx
   ·split at hx
    ·rename_i k' c off m s' hp
     split at hx
     ·rename_i hc
      injection hx with hx; injection hx with e1 e2; subst e1 e2
      rcases plcS_ok s hp with ⟨_, h0, _⟩ | ⟨b, hb, e2⟩
      ·omega
      ·refine Sound.plain (a := .pointer (some ⟨b, off, none⟩)) ?_ Fr.refl s rfl ⟨b, hb, rfl⟩
       simp only [aOp, e2]
       rw [if_pos ⟨hc.2.2, hc.1, hc.2.1⟩]
     ·cases hx
    ·cases hx
  case idxArr n size m x i =>
   cases m with
   | none =>
     simp only at hx
     split at hx
     ·rename_i cs k j he hi
      obtain ⟨e, _⟩ := ev_sc s hi
      split at hx
      ·rename_i hc
       rw [Option.map_eq_some_iff] at hx
       obtain ⟨p, hp, hx⟩ := hx
       injection hx with e1 e2; subst e1 e2
       obtain ⟨as, e2, f⟩ := fr_agg (ev_val s he)
       obtain ⟨q1, q2⟩ := cellP_ok hp
       have := f.2 _ q1
       rw [q2] at this
       exact Sound.plain (by simp only [aOp, e2, e]; rw [if_pos hc, getD_lt (d := Go.undef) (by rw [← f.1]; exact q1)]; rfl) Fr.refl s rfl this
      ·cases hx
     ·cases hx
   | some m =>
     simp only at hx
     split at hx
     ·rename_i cs k j he hi
      obtain ⟨e, _⟩ := ev_sc s hi
      split at hx
      ·rename_i hc
       injection hx with hx; injection hx with e1 e2; subst e1 e2
       obtain ⟨as, e2, f⟩ := fr_agg (ev_val s he)
       exact Sound.plain (by simp only [aOp, e2, e]; rw [if_pos hc]) Fr.refl s rfl (frs_agg (frs_take (frs_drop f _) m))
      ·cases hx
     ·cases hx
  case append size bytes x y => exact app_sound s hx
  case copy size x y => exact copy_sound s hx
  case func fn first caps =>
   cases fn <;> first | (cases hx; done) | skip
   cases first <;> first | (cases hx; done) | skip
   rename_i f
   simp only [Option.map_eq_some_iff] at hx
   obtain ⟨l, hl, hx⟩ := hx
   injection hx with e1 e2; subst e1 e2
   have key : ∀ {cs : List Operand} {l : List (Nat ⊕ PV)}, capsW t cs = some l → l.length = cs.length ∧ ∀ j, j < l.length → CapR β h (NF M β) (l.getD j (.inl 0)) ((cs.map (Ev tA)).getD j Go.undef) := by
    intro cs
    induction cs with
    | nil => intro l hl; simp only [capsW] at hl; injection hl with hl; subst hl; exact ⟨rfl, by simp⟩
    | cons x cs ih =>
      intro l hl
      simp only [capsW] at hl
      split at hl
      ·cases hl
      ·rename_i r hr
       obtain ⟨i1, i2⟩ := ih hr
       have fin : ∀ c, CapR β h (NF M β) c (Ev tA x) → l = c :: r → l.length = (x :: cs).length ∧ ∀ j, j < l.length → CapR β h (NF M β) (l.getD j (.inl 0)) (((x :: cs).map (Ev tA)).getD j Go.undef) := by
        intro c hc he
        subst he
        refine ⟨by simp [i1], fun j hj => ?_⟩
        cases j with
        | zero => exact hc
        | succ j => exact i2 j (by simpa using hj)
       split at hl
       ·rename_i k hp
        split at hl
        ·rename_i bs hk
         injection hl with hl
         exact fin (.inl k) (plc_ok s hp) hl.symm
        ·cases hl
       ·cases hl
       ·split at hl
        ·rename_i p hv
         injection hl with hl
         exact fin (.inr p) (ev_val s hv) hl.symm
        ·cases hl
   obtain ⟨k1, k2⟩ := key hl
   exact Sound.plain (a := .func (.func f) #[] (caps.map (Ev tA)).toArray) (by simp only [aOp]; rfl) Fr.refl s rfl ⟨_, rfl, by simpa using k1, by simpa using k2⟩
  case extract x i =>
   split at hx
   ·rename_i k
    have htr := s.tr k
    split at hx
    ·rename_i l hk
     rw [hk] at htr
     obtain ⟨as, e, hl, hc⟩ := htr
     split at hx
     ·rename_i p hp
      injection hx with hx; injection hx with e1 e2; subst e1 e2
      obtain ⟨q1, q2⟩ := cellC_ok hp
      have := hc i q1
      rw [q2] at this
      exact Sound.plain (by simp only [aOp, Ev, e]; rw [getD_lt (d := Go.undef) (by rw [Array.length_toList, ← hl]; exact q1)]; rfl) Fr.refl s rfl this
     ·rename_i n s' cs hp
      injection hx with hx; injection hx with e1 e2; subst e1 e2
      obtain ⟨q1, q2⟩ := cellC_ok hp
      have hown := hc i q1
      rw [q2] at hown
      let keep : Option Nat → Bool := fun c => decide (c ≠ some i)
      have hkeep : keep none = true := rfl
      have hX : ∀ b, (False ∨ ∃ c, keep c = false ∧ β k c = some b) ↔ β k (some i) = some b := by
       intro b
       constructor
       ·rintro (hf | ⟨c, h1, h2⟩)
        ·exact hf.elim
        ·have : c = some i := by simpa [keep] using h1
         rw [← this]; exact h2
       ·intro hb
        exact .inr ⟨some i, by simp [keep], hb⟩
      have hsub : ∀ k' c b, setB β k (fun c => if keep c then β k c else none) k' c = some b → β k' c = some b := sub_setB (fun c b hb => by split at hb; exact hb; cases hb)
      have hnf : ∀ b, NF (fun b => M b ∨ (False ∨ ∃ c, keep c = false ∧ β k c = some b)) (setB β k fun c => if keep c then β k c else none) b → NF M β b := by
       rintro b ((hm | hx) | ⟨k', c, hc⟩)
       ·exact .inl hm
       ·exact .inr ⟨k, some i, (hX b).1 hx⟩
       ·exact .inr ⟨k', c, hsub _ _ _ hc⟩
      have hs := s.set0.drop k keep (.tup (l.set i .gone)) ?_ (klC k) (fun i u a hi hu => klC_tr (by simp [hkeep]) hi hu)
      ·refine Sound.root (by simp only [aOp, Ev, e]; rw [getD_lt (d := Go.undef) (by rw [Array.length_toList, ← hl]; exact q1)]; rfl) (Fr.less fun k c b hb => ⟨_, _, hsub _ _ _ hb⟩) hs (fun c => if c = none then β k (some i) else none) ?_ ?_ ?_ rfl ?_
       ·intro c b hb
        split at hb
        ·exact ⟨(hX b).2 hb, (s.lt _ _ _ hb).2⟩
        ·cases hb
       ·intro c c' b h1 h2
        split at h1 <;> split at h2 <;> simp_all
       ·intro b hb
        exact .inr ⟨k, some i, (hX b).1 hb⟩
       ·exact OwnAt.keep hown (Keeps.less hnf) (fun _ _ => rfl)
      ·refine ⟨as, e, by rw [List.length_set]; exact hl, fun j hj => ?_⟩
       rw [setB_same]
       have hc' : ∀ j, j < l.length → CVR (β k) h (NF (fun b => M b ∨ False) β) j (l.getD j .gone) (as.toList.getD j Go.undef) := by simpa using hc
       have := cvr_set1 (j := i) (c := .gone) hc' trivial j hj
       cases hci : (l.set i CV.gone).getD j .gone with
       | v p => rw [hci] at this; exact this
       | gone => trivial
       | o n s cs =>
         rw [hci] at this
         have hne : j ≠ i := by
          intro he
          subst he
          rw [List.length_set] at hj
          simp [List.getD, hj] at hci
         simp only [CVR] at this ⊢
         have e : (if keep (some j) = true then β k (some j) else none) = β k (some j) := by rw [if_pos (by simpa [keep] using hne)]
         rw [e]; exact this
     ·cases hx
    ·cases hx
   ·cases hx
  all_goals cases hx
end
end Go.Wb
namespace Go.Wb
open Go
structure WOper where
 dst : Option Tmp
 r : Bool
 op : AOp
 guard : Option (Tmp × Bool)
 ann : List (Nat × Nat)
 io : List Nat
def WOper.a (o : WOper) : AOper := ⟨o.dst, o.op, o.guard⟩
inductive WCode where
 | skip
 | ops (l : List WOper)
 | drawn (l : List WOper) (pairs : List (Nat × Nat))
 | seq (a b : WCode)
 | cond (c : Operand) (x y : WCode)
 | block (id : Nat) (b : WCode)
 | loop (vs : List Nat) (b : WCode)
 | exit (vs : List Nat) (id : Nat)
 | ret (vs : List Nat)
 | cut (vs : List Nat) (b : WCode)
def WCode.erase : WCode → ACode
 | .skip => .skip
 | .ops l => .ops (l.map WOper.a)
 | .drawn l ps => .drawn (l.map WOper.a) ps
 | .seq a b => .seq a.erase b.erase
 | .cond c x y => .cond c x.erase y.erase
 | .block id b => .block id b.erase
 | .loop _ b => .loop b.erase
 | .exit _ id => .exit id
 | .ret _ => .ret
 | .cut _ b => b.erase
def hidB : Nat := 100000
abbrev RW := List CV × List AV × List (List CV)
abbrev CallFW := String → List AV → List (List CV) → Option RW
def tvA : AV → TV
 | .v p => .val p
 | .box cs => .box cs
 | .own n s cs => .own n s cs
 | .clo f caps => .clo f caps
def hidT : Nat → List (List CV) → TT
 | _, [] => botT
 | i, cs :: l => updT (hidT (i + 1) l) i (.hbox cs)
def argTT' : Nat → List AV → TT → TT
 | _, [], t => t
 | i, a :: l, t => updT (argTT' (i + 1) l t) i (tvA a)
def argTT (avs : List AV) (hids : List (List CV)) : TT := argTT' 0 avs (hidT hidB hids)
def renum : Nat → List (Nat ⊕ PV) → List (Nat ⊕ PV)
 | _, [] => []
 | i, .inl _ :: l => .inl (hidB + i) :: renum (i + 1) l
 | i, .inr p :: l => .inr p :: renum i l
def rootsOf : List (Nat ⊕ PV) → List Nat
 | [] => []
 | .inl k :: l => k :: rootsOf l
 | .inr _ :: l => rootsOf l
def arg1 (io : Bool) (hn : Nat) (t : TT) (x : Operand) : Option (AV × Option Nat × List Nat × Option (Nat × Option Nat)) :=
 match EvT t x with
 | .clo f caps => some (.clo f (renum hn caps), none, rootsOf caps, none)
 | .val p => some (.v p, none, [], none)
 | _ => match plc t x with
   | some (k, none, 0) => match t k with
     | .box cs => some (.box cs, some k, [], none)
     | _ => none
   | some _ => none
   | none => match plcS t x with
     | some (k, c, off, n, s) =>
       if io then match c, off, t k with
        | none, 0, .own n' s' cs => if n = n' ∧ s = s' then some (.own n s cs, some k, [], none) else none
        | _, _, _ => none
       else (slv t x).map fun y => (.v (.sl y.1 y.2), none, [], some (k, c))
     | none => none
structure Args where
 avs : List AV
 ds : List (Nat × Nat)
 hs : List Nat
 bos : List (Nat × Option Nat)
def argsW (io : List Nat) (t : TT) : Nat → Nat → List Operand → Option Args
 | _, _, [] => some ⟨[], [], [], []⟩
 | j, hn, x :: l => match arg1 (io.contains j) hn t x with
   | none => none
   | some (av, d, hs, bo) => match argsW io t (j + 1) (hn + hs.length) l with
     | none => none
     | some r => some ⟨av :: r.avs, (match d with | some k => (j, k) :: r.ds | none => r.ds), hs ++ r.hs, (match bo with | some b => b :: r.bos | none => r.bos)⟩
def nodupN : List Nat → Bool
 | [] => true
 | k :: l => !l.contains k && nodupN l
def boxC (t : TT) (k : Nat) : Option (List CV) :=
 match t k with
 | .box cs => some cs
 | .hbox cs => some cs
 | _ => none
def boxesC (t : TT) : List Nat → Option (List (List CV))
 | [] => some []
 | k :: l => match boxC t k, boxesC t l with
   | some cs, some r => some (cs :: r)
   | _, _ => none
mutual
def hasRef : PV → Bool
 | .sc _ => false
 | .agg cs => hasRefs cs
 | .sl _ _ => true
def hasRefs : List PV → Bool
 | [] => false
 | p :: l => hasRef p || hasRefs l
end
def refC : CV → Bool
 | .v p => hasRef p
 | .o _ _ cs => hasRefs cs
 | .gone => false
def refCs (cs : List CV) : Bool := cs.any refC
def refA : AV → Bool
 | .v _ => false
 | .box cs => refCs cs
 | .own _ _ cs => hasRefs cs
 | .clo .. => false
def refRW (r : RW) : Bool := refCs r.1 || r.2.1.any refA || r.2.2.any refCs
def isOwnV (c : Option Nat) (v : TV) : Bool :=
 match c, v with
 | none, .own .. => true
 | none, .box bs => (unv bs).isSome
 | some j, .box bs => match cellC bs j with
   | some (.o ..) => true
   | _ => false
 | _, _ => false
def isOwnB (t : TT) (b : Nat × Option Nat) : Bool := isOwnV b.2 (t b.1)
def frz1 (t : TT) : Nat × Option Nat → TT
 | (k, none) => match t k with
   | .own n _ cs => setR t k (.val (.sl n cs))
   | .box bs => match unv bs with
     | some ps => setR t k (.pf ps 0)
     | none => t
   | _ => t
 | (k, some j) => match t k with
   | .box bs => match cellC bs j with
     | some (.o n _ cs) => setC t k (.box (bs.set j (.v (.sl n cs))))
     | _ => t
   | _ => t
def frzs : List (Nat × Option Nat) → TT → TT
 | [], t => t
 | b :: l, t => frzs l (frz1 t b)
def backH (old : TV) (cs : List CV) : TV :=
 match old with
 | .hbox _ => .hbox cs
 | _ => .box cs
def backTV (old : TV) : AV → Option TV
 | .box cs => some (backH old cs)
 | .own n s cs => match old with
   | .own n' s' _ => if n = n' ∧ s = s' then some (.own n s cs) else none
   | _ => none
 | _ => none
def backs (outs : List AV) : List (Nat × Nat) → TT → Option TT
 | [], t => some t
 | (j, k) :: l, t => match outs[j]? with
   | some a => match backTV (t k) a, backs outs l t with
     | some v, some t' => some (setC t' k v)
     | _, _ => none
   | none => none
def backHs : List (List CV) → List Nat → TT → Option TT
 | [], [], t => some t
 | cs :: l, k :: ks, t => (backHs l ks t).map fun t' => setC t' k (backH (t k) cs)
 | _, _, _ => none
def resTV : List CV → TV
 | [c] => tvC c
 | l => .tup l
def afterW (t : TT) (a : Args) (r : RW) : Option (TV × TT) :=
 match (if a.bos.isEmpty then some t else if refRW r then (if a.bos.all (isOwnB t) then some (frzs a.bos t) else none) else some t) with
 | none => none
 | some t1 => match backHs r.2.2 a.hs t1 with
   | none => none
   | some t2 => (backs r.2.1 a.ds t2).map fun t3 => (resTV r.1, t3)
def callW (call : CallFW) (f : String) (io : List Nat) (args : List Operand) (t : TT) : Option (TV × TT) :=
 match argsW io t 0 0 args with
 | none => none
 | some a => if decide (a.avs.length ≤ hidB) && nodupN (a.ds.map (·.2) ++ a.hs) && a.bos.all (fun b => !(a.ds.map (·.2) ++ a.hs).contains b.1) then
  match boxesC t a.hs with
  | none => none
  | some hc => match call f a.avs hc with
    | some r => afterW t a r
    | none => none
   else none
def capArgs (t : TT) : Nat → List (Nat ⊕ PV) → Option (List AV × List (Nat × Nat))
 | _, [] => some ([], [])
 | j, .inl k :: l => match boxC t k, capArgs t (j + 1) l with
   | some cs, some (a, d) => some (.box cs :: a, (j, k) :: d)
   | _, _ => none
 | j, .inr p :: l => match capArgs t (j + 1) l with
   | some (a, d) => some (.v p :: a, d)
   | none => none
def dynW (tbl : List (Nat × String)) (call : CallFW) (io : List Nat) (x : Operand) (args : List Operand) (t : TT) : Option (TV × TT) :=
 match (match EvT t x with
  | .clo f caps => some (f, caps)
  | .val (.sc (.func (.func f) _ _)) => some (f, [])
  | _ => none) with
 | none => none
 | some (f, caps) => match tbl.find? (fun e => e.1 == f) with
   | none => none
   | some e => match argsW io t 0 0 args with
     | none => none
     | some a0 => match capArgs t a0.avs.length caps with
       | none => none
       | some (ca, cd) =>
         let a : Args := ⟨a0.avs ++ ca, a0.ds ++ cd, a0.hs, a0.bos⟩
         if decide (a.avs.length ≤ hidB) && nodupN (a.ds.map (·.2) ++ a.hs) && a.bos.all (fun b => !(a.ds.map (·.2) ++ a.hs).contains b.1) then
          match boxesC t a.hs with
          | none => none
          | some hc => match call e.2 a.avs hc with
            | some r => afterW t a r
            | none => none
         else none
def wantedW (g : Option (Tmp × Bool)) (t : TT) : Option Bool :=
 match g with
 | none => some true
 | some (d, w) => match t d with
   | .val (.sc (.bool b)) => some (b == w)
   | .skip => some false
   | _ => none
def roV (t : TT) (x : Operand) : Option (PV × Option (Nat × Option Nat)) :=
 match EvT t x with
 | .val p => some (p, none)
 | _ => match plcS t x with
   | some (k, c, _, _, _) => (slv t x).map fun y => (.sl y.1 y.2, some (k, c))
   | none => none
def consO (b : Option (Nat × Option Nat)) (l : List (Nat × Option Nat)) : List (Nat × Option Nat) :=
 match b with
 | some b => b :: l
 | none => l
def fillW (t : TT) : List PV → List (Nat × Nat × Operand) → Option (List PV × List (Nat × Option Nat))
 | cs, [] => some (cs, [])
 | cs, (off, size, x) :: rest => match roV t x with
   | some (p, bo) => if (pvCells p).length = size ∧ off + size ≤ cs.length then (fillW t (cs.take off ++ pvCells p ++ cs.drop (off + size)) rest).map fun r => (r.1, consO bo r.2) else none
   | none => none
def frzIf (t : TT) (bos : List (Nat × Option Nat)) : Option TT := if bos.all (isOwnB t) then some (frzs bos t) else none
def isBld : AOp → Bool
 | .build .. => true
 | .buildSlice .. => true
 | _ => false
def bldW (t : TT) : AOp → Option (TV × TT)
 | .build z ps => match pvZs z with
   | some l => match fillW t l ps with
     | some (cs, bos) => (frzIf t bos).map fun t1 => (.val (.agg cs), t1)
     | none => none
   | none => none
 | .buildSlice size n z ps => match pvCs z with
   | some l => match fillW t (repP n l) ps with
     | some (cs, bos) => if cs.length = n * size then (frzIf t bos).map fun t1 => (.own n size cs, t1) else none
     | none => none
   | none => none
 | _ => none
def evalW (tbl : List (Nat × String)) (call : CallFW) (o : WOper) (t : TT) : Option (TV × TT) :=
 match o.op with
 | .call f args => if f = "@dyn" then match args with
  | x :: args => dynW tbl call o.io x args t
  | [] => none
   else callW call f o.io args t
 | op => if isBld op then bldW t op else opW o.r o.ann op t
def stepW (tbl : List (Nat × String)) (call : CallFW) (o : WOper) (t : TT) : Option TT :=
 match wantedW o.guard t with
 | some true => match evalW tbl call o t with
   | some (v, t') => some (putT t' o.dst v)
   | none => none
 | some false => some (putT t o.dst .skip)
 | none => none
def execW (tbl : List (Nat × String)) (call : CallFW) : List WOper → TT → Option TT
 | [], t => some t
 | o :: l, t => match stepW tbl call o t with
   | some t' => execW tbl call l t'
   | none => none
def goodW (o : WOper) (t : TT) : Bool :=
 match wantedW o.guard t with
 | some false => true
 | _ => match o.op with
   | .call f args => if f = "@dyn" then false else match argsW o.io t 0 0 args with
     | some a => a.ds.isEmpty && a.hs.isEmpty
     | none => false
   | .alloc .. | .box .. | .buildSlice .. | .makeSlice .. | .strBytes .. => true
   | _ => false
def oldW (o : WOper) (t to : TT) : TT :=
 match wantedW o.guard t with
 | some false => putT to o.dst .skip
 | _ => if isE o.op || isR o.op then putT to o.dst .undef
   else match (if isBld o.op then bldW to o.op else opW o.r o.ann o.op to) with
    | some (v, to1) => putT to1 o.dst v
    | none => putT to o.dst .undef
def loadsW (o : WOper) (t to : TT) : List Bool :=
 match o.op with
 | .load _ _ => [match wantedW o.guard t with
   | some false => true
   | _ => (opW o.r o.ann o.op to).isSome]
 | _ => []
def drawL (tbl : List (Nat × String)) (call : CallFW) : List WOper → TT → TT → Nat → Bool → Option (TT × Nat × List Bool)
 | [], t, _, st, _ => some (t, st, [])
 | o :: l, t, to, st, g => match stepW tbl call o t with
   | none => none
   | some t' => (drawL tbl call l t' (oldW o t to) (if isE o.op && (g && goodW o t) then st + 1 else st) (g && (!isE o.op || goodW o t))).map fun r =>
    (r.1, r.2.1, (loadsW o t to).map (· && g) ++ r.2.2)
def stO (p : Option (Nat × Option Nat × Nat)) (x : Nat) (v : TV) : Bool :=
 match p, v with
 | some (k, _, _), .ref k' _ _ => k' != k
 | some (k, _, _), .box _ => x != k
 | some _, .pf _ _ => true
 | _, _ => false
def stOther (o : WOper) (t : TT) (x : Nat) : Bool :=
 match o.op with
 | .store _ a _ => stO (plc t a) x (t x)
 | _ => false
def presW (o : WOper) (t : TT) : Option Nat → Bool
 | none => true
 | some x => o.dst != some x && (!isE o.op || goodW o t || stOther o t x)
def fwd (tbl : List (Nat × String)) (call : CallFW) : List WOper → TT → Option Nat → Nat
 | [], _, _ => 0
 | o :: l, t, x => match stepW tbl call o t with
   | some t' => if presW o t x then (if isE o.op then fwd tbl call l t' x + 1 else fwd tbl call l t' x) else 0
   | none => 0
def adrW (o : WOper) (t : TT) : Option (Option Nat) :=
 match o.op with
 | .load _ (.tmp x) => match wantedW o.guard t with
   | some false => some none
   | _ => if o.dst == some x then none else some (some x)
 | .load _ _ => match wantedW o.guard t with
   | some false => some none
   | _ => none
 | _ => none
def fwdL (tbl : List (Nat × String)) (call : CallFW) : List WOper → TT → Nat → List (Nat × Nat)
 | [], _, _ => []
 | o :: l, t, ct => match stepW tbl call o t with
   | some t' => (if isLoad o.op then [match adrW o t with
    | some x => (ct, ct + fwd tbl call l t' x)
    | none => (1, 0)] else []) ++ fwdL tbl call l t' (if isE o.op then ct + 1 else ct)
   | none => []
def fOk (e : Nat × Nat) (s : Nat) : Bool := decide (e.1 ≤ s) && decide (s ≤ e.2)
def drawW (tbl : List (Nat × String)) (call : CallFW) (l : List WOper) (ps : List (Nat × Nat)) (t : TT) : Option TT :=
 match drawL tbl call l t t 0 true with
 | some (t', st, L) => if ps.all (fun p => (L.getD p.1 false && decide (p.2 ≤ st)) || fOk ((fwdL tbl call l t 0).getD p.1 (1, 0)) p.2) then some t' else none
 | none => none
inductive WFun where
 | code (res : List ARes) (body : WCode)
 | prim (g : List AV → List (List CV) → Option RW)
structure EnvW where
 fn : String → Option WFun
 tbl : List (Nat × String)
def resW (t : TT) : List ARes → Option (List CV)
 | [] => some []
 | .tmp i :: l => match t i, resW t l with
   | .val p, some r => some (.v p :: r)
   | .own n s cs, some r => some (.o n s cs :: r)
   | _, _ => none
 | .cell i none :: l => match t i, resW t l with
   | .box cs, some r => match cellC cs 0 with
     | some (.v p) => some (.v p :: r)
     | some (.o n s l) => some (.o n s l :: r)
     | _ => none
   | _, _ => none
 | .cell i (some m) :: l => match t i, resW t l with
   | .box cs, some r => if m ≤ cs.length then (unv ((cs.map frz).take m)).map fun l => .v (.agg l) :: r else none
   | _, _ => none
def noDstO (j : Nat) (l : List AOper) : Bool := l.all fun o => o.dst != some j
def noDst (j : Nat) : ACode → Bool
 | .skip | .exit _ | .ret => true
 | .ops l => noDstO j l
 | .drawn l _ => noDstO j l
 | .seq a b => noDst j a && noDst j b
 | .cond _ x y => noDst j x && noDst j y
 | .block _ b => noDst j b
 | .loop b => noDst j b
def sameCaps : List (Nat ⊕ PV) → List (Nat ⊕ PV) → Bool
 | [], [] => true
 | .inl k :: l, .inl k' :: l' => k == k' && decide (hidB ≤ k) && sameCaps l l'
 | .inr _ :: l, .inr _ :: l' => sameCaps l l'
 | _, _ => false
def outsW (body : WCode) (t : TT) : Nat → List AV → Option (List AV)
 | _, [] => some []
 | j, .v _ :: l => (outsW body t (j + 1) l).map fun r => .v (.agg []) :: r
 | j, .box _ :: l => if noDst j body.erase then match t j, outsW body t (j + 1) l with
  | .box cs, some r => some (.box cs :: r)
  | _, _ => none
   else none
 | j, .own .. :: l => if noDst j body.erase then match t j, outsW body t (j + 1) l with
  | .own n s cs, some r => some (.own n s cs :: r)
  | _, _ => none
   else none
 | j, .clo _ caps :: l => if noDst j body.erase then match t j, outsW body t (j + 1) l with
  | .clo f' caps', some r => if sameCaps caps caps' then some (.clo f' caps' :: r) else none
  | _, _ => none
   else none
def houtsW (t : TT) : Nat → List (List CV) → Option (List (List CV))
 | _, [] => some []
 | i, _ :: l => match t (hidB + i), houtsW t (i + 1) l with
   | .hbox cs, some r => some (cs :: r)
   | _, _ => none
def resOk (avs : List AV) : List ARes → Bool
 | [] => true
 | r :: l => (match r with
     | .tmp i => !l.any (fun q => match q with | .tmp j => i == j | .cell j _ => i == j) && (match avs[i]? with | some (.v _) => true | none => decide (i < hidB) | _ => false)
     | .cell i _ => !l.any (fun q => match q with | .tmp j => i == j | .cell j _ => i == j) && (match avs[i]? with | some (.v _) => true | none => decide (i < hidB) | _ => false)) && resOk avs l
def leaveW (res : List ARes) (body : WCode) (avs : List AV) (hids : List (List CV)) (t : TT) : Option RW :=
 if resOk avs res then match resW t res, outsW body t 0 avs, houtsW t 0 hids with
  | some r, some o, some h => some (r, o, h)
  | _, _, _ => none
 else none
def tvO : AV → TV
 | .v _ => .undef
 | a => tvA a
def outTT' : Nat → List AV → TT → TT
 | _, [], t => t
 | i, a :: l, t => updT (outTT' (i + 1) l t) i (tvO a)
def outTT (outs : List AV) (houts : List (List CV)) : TT := outTT' 0 outs (hidT hidB houts)
mutual
def callWN (E : EnvW) : Nat → CallFW
 | 0, _, _, _ => none
 | n + 1, f, avs, hids => match E.fn f with
   | none => none
   | some (.prim g) => g avs hids
   | some (.code res body) => match runWN E n body (argTT avs hids) with
     | some (.ret, t) => leaveW res body avs hids t
     | some (.normal, t) => leaveW res body avs hids t
     | _ => none
def runWN (E : EnvW) : Nat → WCode → TT → Option (AExit × TT)
 | 0, _, _ => none
 | n + 1, c, t => match c with
   | .skip => some (.normal, t)
   | .ops l => (execW E.tbl (callWN E n) l t).map fun x => (.normal, x)
   | .drawn l ps => if ps.isEmpty then (execW E.tbl (callWN E n) l t).map fun x => (.normal, x) else (drawW E.tbl (callWN E n) l ps t).map fun x => (.normal, x)
   | .seq a b => match runWN E n a t with
     | some (.normal, t') => runWN E n b t'
     | r => r
   | .cond c x y => match EvT t c with
     | .val (.sc (.bool true)) => runWN E n x t
     | .val (.sc (.bool false)) => runWN E n y t
     | _ => none
   | .block id b => match runWN E n b t with
     | some (.exit i, t') => if i = id then some (.normal, t') else some (.exit i, t')
     | r => r
   | .loop vs b => match runWN E n b (restr vs t) with
     | some (.normal, t') => runWN E n (.loop vs b) t'
     | r => r
   | .exit vs id => some (.exit id, restr vs t)
   | .ret vs => some (.ret, restr vs t)
   | .cut vs b => runWN E n b (restr vs t)
end
end Go.Wb
namespace Go.Wb
open Go
theorem put_ne {t : T} {d : Option Tmp} {j : Nat} {v : Value} (h : d ≠ some j) : put t d v j = t j := by
 cases d with
 | none => rfl
 | some k =>
   simp only [put, upd]
   rw [if_neg (fun e => h (by rw [e]))]
theorem stepA_dst {call : CallF} {o : AOper} {t t' : T} {h h' : Heap} {j : Nat} (hx : stepA call o t h = some (t', h')) (hd : o.dst ≠ some j) : t' j = t j := by
 unfold stepA at hx
 split at hx
 ·split at hx
  ·injection hx with hx; injection hx with e1 e2; subst e1
   exact put_ne hd
  ·cases hx
 ·injection hx with hx; injection hx with e1 e2; subst e1
  exact put_ne hd
theorem execOps_dst {call : CallF} {j : Nat} : ∀ {l : List AOper} {t t' : T} {h h' : Heap}, execOps call l t h = some (t', h') → noDstO j l = true → t' j = t j
 | [], t, t', h, h', hx, _ => by simp only [execOps] at hx; injection hx with hx; injection hx with e1 e2; subst e1; rfl
 | o :: l, t, t', h, h', hx, hd => by
   simp only [execOps] at hx
   simp only [noDstO, List.all_cons, Bool.and_eq_true] at hd
   split at hx
   ·rename_i t1 h1 hs
    rw [execOps_dst hx hd.2, stepA_dst hs (by simpa using hd.1)]
   ·cases hx
theorem execLog_dst {call : CallF} {j : Nat} : ∀ {l : List AOper} {t t' : T} {h h' : Heap} {G : List Heap} {L : List LoadRec}, execLog call l t h = some (t', h', G, L) → noDstO j l = true → t' j = t j
 | [], t, t', h, h', G, L, hx, _ => by simp only [execLog] at hx; injection hx with hx; injection hx with e1 e2; subst e1; rfl
 | o :: l, t, t', h, h', G, L, hx, hd => by
   simp only [execLog] at hx
   simp only [noDstO, List.all_cons, Bool.and_eq_true] at hd
   split at hx
   ·rename_i t1 h1 hs
    split at hx
    ·rename_i t2 h2 G2 L2 hr
     injection hx with hx; injection hx with e1 e2; subst e1
     rw [execLog_dst hr hd.2, stepA_dst hs (by simpa using hd.1)]
    ·cases hx
   ·cases hx
theorem runN_dst {E : Env} {j : Nat} : ∀ (n : Nat) (c : ACode) (t : T) (h : Heap) (e : AExit) (t' : T) (h' : Heap), runN E n c t h = some (e, t', h') → noDst j c = true → t' j = t j
 | 0, _, _, _, _, _, _, hx, _ => by simp only [runN] at hx; cases hx
 | n + 1, c, t, h, e, t', h', hx, hd => by
   cases c with
   | skip => rw [runN_skip] at hx; injection hx with hx; injection hx with _ hx; injection hx with e1 _; rw [e1]
   | exit id => rw [runN_exit] at hx; injection hx with hx; injection hx with _ hx; injection hx with e1 _; rw [e1]
   | ret => rw [runN_ret] at hx; injection hx with hx; injection hx with _ hx; injection hx with e1 _; rw [e1]
   | ops l =>
     rw [runN_ops, Option.map_eq_some_iff] at hx
     obtain ⟨⟨t1, h1⟩, hx, hy⟩ := hx
     injection hy with _ hy; injection hy with e1 _; subst e1
     exact execOps_dst hx hd
   | drawn l ps =>
     rw [runN_drawn, Option.map_eq_some_iff] at hx
     obtain ⟨⟨t1, h1⟩, hx, hy⟩ := hx
     injection hy with _ hy; injection hy with e1 _; subst e1
     unfold execDrawn at hx
     split at hx
     ·rename_i t2 h2 G L hl
      split at hx
      ·injection hx with hx; injection hx with e1 _; subst e1
       exact execLog_dst hl hd
      ·cases hx
     ·cases hx
   | seq a b =>
     simp only [noDst, Bool.and_eq_true] at hd
     rw [runN_seq] at hx
     split at hx
     ·rename_i t1 h1 hr
      rw [runN_dst n _ _ _ _ _ _ hx hd.2, runN_dst n _ _ _ _ _ _ hr hd.1]
     ·exact runN_dst n _ _ _ _ _ _ hx hd.1
   | cond c x y =>
     simp only [noDst, Bool.and_eq_true] at hd
     rw [runN_cond] at hx
     split at hx
     ·exact runN_dst n _ _ _ _ _ _ hx hd.1
     ·exact runN_dst n _ _ _ _ _ _ hx hd.2
     ·cases hx
   | block id b =>
     rw [runN_block] at hx
     split at hx
     ·rename_i i t1 h1 hr
      have := runN_dst n _ _ _ _ _ _ hr hd
      split at hx <;> (injection hx with hx; injection hx with _ hx; injection hx with e1 _; rw [← e1]; exact this)
     ·exact runN_dst n _ _ _ _ _ _ hx hd
   | loop b =>
     rw [runN_loop] at hx
     split at hx
     ·rename_i t1 h1 hr
      rw [runN_dst n (.loop b) _ _ _ _ _ hx hd, runN_dst n _ _ _ _ _ _ hr hd]
     ·exact runN_dst n _ _ _ _ _ _ hx hd
theorem runA_dst {E : Env} {j : Nat} {c : ACode} {t : T} {h : Heap} {e : AExit} {t' : T} {h' : Heap} (hx : runA E c t h = some (e, t', h')) (hd : noDst j c = true) : t' j = t j := by
 obtain ⟨n, hn⟩ := runA_iff.1 hx
 exact runN_dst n _ _ _ _ _ _ hn hd
section
variable {M : Nat → Prop} {β : Bt} {h : Heap} {t : TT} {tA : T}
theorem restr_at : ∀ (vs : List Nat) (t : TT) (i : Nat), restr vs t i = t i ∨ restr vs t i = .undef
 | [], t, i => .inr rfl
 | v :: vs, t, i => by
   simp only [restr, updT]
   split
   ·rename_i hi; subst hi; exact .inl rfl
   ·exact restr_at vs t i
theorem SR.part (s : SR M β h t tA) {t' : TT} (ht : ∀ i, t' i = t i ∨ t' i = .undef) : SR M β h t' tA := by
 refine ⟨fun i => ?_, s.inj, s.lt, s.mlt⟩
 rcases ht i with e | e
 ·rw [e]; exact s.tr i
 ·rw [e]; trivial
theorem SR.restr (s : SR M β h t tA) (vs : List Nat) : SR M β h (restr vs t) tA := s.part (restr_at vs t)
mutual
theorem fr_noRef {N N' : Nat → Prop} {h' : Heap} : ∀ (p : PV) (a : Value), hasRef p = false → FR h N p a → FR h' N' p a
 | .sc v, a, _, hf => by cases hf with | sc v hv => exact .sc _ hv
 | .agg cs, a, hr, hf => by
   obtain ⟨as, rfl, h1⟩ := fr_agg hf
   have h2 := frs_noRef (N' := N') (h' := h') cs as.toList (by simpa only [hasRef] using hr) h1
   exact .agg _ _ (by rw [h2.1, Array.length_toList]) h2.2
 | .sl _ _, a, hr, _ => by simp [hasRef] at hr
theorem frs_noRef {N N' : Nat → Prop} {h' : Heap} : ∀ (cs : List PV) (ca : List Value), hasRefs cs = false → FRs h N cs ca → FRs h' N' cs ca
 | [], ca, _, hf => ⟨hf.1, by simp⟩
 | p :: l, ca, hr, hf => by
   simp only [hasRefs, Bool.or_eq_false_iff] at hr
   cases ca with
   | nil => have := hf.1; simp at this
   | cons c ca =>
     have h0 := hf.2 0 (by simp)
     have h1 := fr_noRef (N' := N') (h' := h') p c hr.1 (by simpa using h0)
     have h2 := frs_noRef (N' := N') (h' := h') l ca hr.2 ⟨by simpa using hf.1, fun i hi => by simpa using hf.2 (i + 1) (by simpa using hi)⟩
     refine ⟨hf.1, fun i hi => ?_⟩
     cases i with
     | zero => exact h1
     | succ i => exact h2.2 i (by simpa using hi)
end
theorem cvr_noRef {β' : Option Nat → Option Nat} {N N' : Nat → Prop} {j : Nat} {c : CV} {a : Value} (hr : refC c = false) (hc : CVR β' h N j c a) : CVR β' h N' j c a := by
 cases c with
 | v p => exact fr_noRef p a hr hc
 | gone => trivial
 | o n s cs =>
   rcases hc with hc | ⟨b, ca, h1, h2, h3, h4, h5⟩
   ·exact .inl hc
   ·exact .inr ⟨b, ca, h1, h2, h3, h4, frs_noRef cs ca hr h5⟩
theorem isOwnV_kl {c : Option Nat} {k : Nat} {v : TV} : isOwnV c (kl k v) = isOwnV c v := by
 cases v <;> (try rfl) <;> simp only [kl] <;> split <;> cases c <;> rfl
theorem isOwnV_klC {c : Option Nat} {k : Nat} {v : TV} : isOwnV c (klC k v) = isOwnV c v := by
 cases v <;> (try rfl)
 ·rename_i k' c' off
  cases c' <;> simp only [klC] <;> (try rfl)
  split <;> cases c <;> rfl
 ·rename_i k' c' off n s
  cases c' <;> simp only [klC] <;> (try rfl)
  split <;> cases c <;> rfl
structure Frozen (M : Nat → Prop) (β : Bt) (h : Heap) (t : TT) (tA : T) (k : Nat) (c : Option Nat) (t' : TT) (β1 : Bt) : Prop where
 sr : SR M β1 h t' tA
 sub : ∀ k c x, β1 k c = some x → β k c = some x
 gone : ∀ x, β k c = some x → ∀ k' c', β1 k' c' ≠ some x
 at_ : ∀ k', k' ≠ k → t' k' = kl k (t k') ∨ t' k' = klC k (t k')
 own : ∀ b, b ≠ (k, c) → isOwnB t b = true → isOwnB t' b = true
 keep : ∀ k' c', k' ≠ k → β1 k' c' = β k' c'
theorem frz_own (s : SR M β h t tA) {k n s' : Nat} {cs : List PV} (hk : t k = .own n s' cs) : ∃ β1, Frozen M β h t tA k none (setR t k (.val (.sl n cs))) β1 := by
 have q : ∃ β1, SR M β1 h (setR t k (.val (.sl n cs))) tA ∧ (∀ k c x, β1 k c = some x → β k c = some x) ∧ (∀ x, β k none = some x → ∀ k' c', β1 k' c' ≠ some x) ∧ (∀ k' c', k' ≠ k → β1 k' c' = β k' c') ∧ (∀ k', k' ≠ k → setR t k (.val (.sl n cs)) k' = t k' ∨ setR t k (.val (.sl n cs)) k' = kl k (t k') ∨ True) := by
  have htr := s.tr k
  rw [hk] at htr
  have s1 := (s.dropR k).weak
  refine ⟨setB β k fun _ => none, ?_, sub_setB (by simp), ?_, fun k' c' hk' => by rw [setB_ne hk'], fun k' hk' => .inr (.inl (by unfold setR; rw [if_neg hk']))⟩
  ·have s2 := s1.upd (d := k) (v := .val (.sl n cs)) (a := tA k) ?_
   ·rw [upd_self] at s2
    have e : updT (setR t k .undef) k (.val (.sl n cs)) = setR t k (.val (.sl n cs)) := by
     funext i; unfold updT setR; split <;> simp_all
    rw [e] at s2; exact s2
   ·rcases htr with ⟨_, rfl, rfl, e⟩ | ⟨b, ca, e1, e2, e3, e4, e5⟩
    ·rw [e]; exact FR.slNil
    ·rw [e2]
     refine FR.sl n s' cs b 0 false ca ?_ e3 e4 (by rw [e5.1]; omega) fun i hi => ?_
     ·rintro (hm | ⟨k', c', hc⟩)
      ·exact (s.lt _ _ _ e1).2 hm
      ·unfold setB at hc
       split at hc
       ·cases hc
       ·rename_i hne
        exact hne (s.inj _ _ _ _ _ hc e1).1
     ·rw [Nat.zero_add]
      refine (e5.2 i hi).keep (Keeps.less ?_)
      rintro b' (hm | ⟨k', c', hc⟩)
      ·exact .inl hm
      ·exact .inr ⟨_, _, sub_setB (by simp) _ _ _ hc⟩
  ·intro x hx k' c' hc
   unfold setB at hc
   split at hc
   ·cases hc
   ·rename_i hne
    exact hne (s.inj _ _ _ _ _ hc hx).1
 obtain ⟨β1, h1, h2, h3, h4, _⟩ := q
 refine ⟨β1, h1, h2, h3, fun k' hk' => .inl (by unfold setR; rw [if_neg hk']), fun b hb ho => ?_, h4⟩
 obtain ⟨k', c⟩ := b
 by_cases hk' : k' = k
 ·subst hk'
  cases c with
  | none => exact absurd rfl hb
  | some j => simp [isOwnB, isOwnV, hk] at ho
 ·have e : setR t k (.val (.sl n cs)) k' = kl k (t k') := by unfold setR; rw [if_neg hk']
  simp only [isOwnB, e] at ho ⊢
  rw [isOwnV_kl]; exact ho
theorem unv_map : ∀ {cs : List CV} {ps : List PV}, unv cs = some ps → cs = ps.map .v
 | [], ps, h => by simp only [unv] at h; injection h with h; subst h; rfl
 | .v p :: cs, ps, h => by
   simp only [unv, Option.map_eq_some_iff] at h
   obtain ⟨l, h1, h2⟩ := h
   subst h2
   rw [unv_map h1]; rfl
 | .o .. :: cs, ps, h => by simp only [unv] at h; cases h
 | .gone :: cs, ps, h => by simp only [unv] at h; cases h
theorem frz_box (s : SR M β h t tA) {k : Nat} {cs : List CV} {ps : List PV} (hk : t k = .box cs) (hu : unv cs = some ps) : ∃ β1, Frozen M β h t tA k none (setR t k (.pf ps 0)) β1 := by
 have hcs := unv_map hu
 have q : ∃ β1, SR M β1 h (setR t k (.pf ps 0)) tA ∧ (∀ k c x, β1 k c = some x → β k c = some x) ∧ (∀ x, β k none = some x → ∀ k' c', β1 k' c' ≠ some x) ∧ (∀ k' c', k' ≠ k → β1 k' c' = β k' c') := by
  have htr := s.tr k
  rw [hk] at htr
  obtain ⟨b, ca, e1, e2, e3, e4, e5⟩ := htr
  have s1 := (s.dropR k).weak
  refine ⟨setB β k fun _ => none, ?_, sub_setB (by simp), ?_, fun k' c' hk' => by rw [setB_ne hk']⟩
  ·have s2 := s1.upd (d := k) (v := .pf ps 0) (a := tA k) ?_
   ·rw [upd_self] at s2
    have e : updT (setR t k .undef) k (.pf ps 0) = setR t k (.pf ps 0) := by
     funext i; unfold updT setR; split <;> simp_all
    rw [e] at s2; exact s2
   ·refine ⟨b, 0, false, ca, e2, ?_, e3, by rw [← e4, hcs]; simp, fun i hi => ?_⟩
    ·rintro (hm | ⟨k', c', hc⟩)
     ·exact (s.lt _ _ _ e1).2 hm
     ·unfold setB at hc
      split at hc
      ·cases hc
      ·rename_i hne
       exact hne (s.inj _ _ _ _ _ hc e1).1
    ·have := e5 i (by rw [hcs]; simpa using hi)
     have e : cs.getD i .gone = .v (ps.getD i default) := by
      rw [hcs]
      simp [List.getD, hi]
     rw [e] at this
     rw [Nat.zero_add]
     simp only [CVR] at this
     refine this.keep (Keeps.less ?_)
     rintro b' (hm | ⟨k', c', hc⟩)
     ·exact .inl hm
     ·exact .inr ⟨_, _, sub_setB (by simp) _ _ _ hc⟩
  ·intro x hx k' c' hc
   unfold setB at hc
   split at hc
   ·cases hc
   ·rename_i hne
    exact hne (s.inj _ _ _ _ _ hc hx).1
 obtain ⟨β1, h1, h2, h3, h4⟩ := q
 refine ⟨β1, h1, h2, h3, fun k' hk' => .inl (by unfold setR; rw [if_neg hk']), fun b hb ho => ?_, h4⟩
 obtain ⟨k', c⟩ := b
 by_cases hk' : k' = k
 ·subst hk'
  cases c with
  | none => exact absurd rfl hb
  | some j =>
    simp only [isOwnB, isOwnV, hk] at ho
    rw [hcs] at ho
    simp only [cellC, List.getElem?_map] at ho
    cases hp : ps[j]? <;> rw [hp] at ho <;> cases ho
 ·have e : setR t k (.pf ps 0) k' = kl k (t k') := by unfold setR; rw [if_neg hk']
  simp only [isOwnB, e] at ho ⊢
  rw [isOwnV_kl]; exact ho
theorem frz_cell (s : SR M β h t tA) {k j n s' : Nat} {bs : List CV} {cs : List PV} (hk : t k = .box bs) (hj : cellC bs j = some (.o n s' cs)) : ∃ β1, Frozen M β h t tA k (some j) (setC t k (.box (bs.set j (.v (.sl n cs))))) β1 := by
 have q : ∃ β1, SR M β1 h (setC t k (.box (bs.set j (.v (.sl n cs))))) tA ∧ (∀ k c x, β1 k c = some x → β k c = some x) ∧ (∀ x, β k (some j) = some x → ∀ k' c', β1 k' c' ≠ some x) ∧ (∀ k' c', k' ≠ k → β1 k' c' = β k' c') ∧ (∀ k', k' ≠ k → setC t k (.box (bs.set j (.v (.sl n cs)))) k' = t k' ∨ True ∨ setC t k (.box (bs.set j (.v (.sl n cs)))) k' = klC k (t k')) := by
  have htr := s.tr k
  rw [hk] at htr
  obtain ⟨b0, ca0, g1, g2, g3, g4, g5⟩ := htr
  obtain ⟨hjl, hown⟩ := cell_own g5 hj
  let keep : Option Nat → Bool := fun c => decide (c ≠ some j)
  have hkeep : keep none = true := rfl
  have s1 := (s.set0.drop k keep .undef trivial (klC k) (fun i u a hi hu => klC_tr (by simp [hkeep]) hi hu)).weak
  have hsub : ∀ k' c b, setB β k (fun c => if keep c then β k c else none) k' c = some b → β k' c = some b := sub_setB (fun c b hb => by split at hb; exact hb; cases hb)
  have hgone : ∀ x, β k (some j) = some x → ∀ k' c', setB β k (fun c => if keep c then β k c else none) k' c' ≠ some x := by
   intro x hx k' c' hc
   obtain ⟨e1, e2⟩ := s.inj _ _ _ _ _ (hsub _ _ _ hc) hx
   subst e1 e2
   unfold setB at hc
   rw [if_pos rfl] at hc
   simp [keep] at hc
  have hnf : ∀ b, NF M (setB β k fun c => if keep c then β k c else none) b → NF M β b := by
   rintro b (hm | ⟨k', c, hc⟩)
   ·exact .inl hm
   ·exact .inr ⟨k', c, hsub _ _ _ hc⟩
  refine ⟨_, ?_, hsub, fun x hx => hgone x hx, fun k' c' hk' => by rw [setB_ne hk'], fun k' hk' => .inr (.inr (by unfold setC; rw [if_neg hk']))⟩
  have s2 := s1.upd (d := k) (v := .box (bs.set j (.v (.sl n cs)))) (a := tA k) ?_
  ·rw [upd_self] at s2
   have e : updT (fun i => if i = k then TV.undef else klC k (t i)) k (.box (bs.set j (.v (.sl n cs)))) = setC t k (.box (bs.set j (.v (.sl n cs)))) := by
    funext i; unfold updT setC; split <;> simp_all
   rw [e] at s2; exact s2
  ·refine ⟨b0, ca0, by rw [setB_same]; simpa [hkeep] using g1, g2, g3, by rw [List.length_set]; exact g4, ?_⟩
   rw [setB_same]
   intro i' hi'
   rw [List.length_set] at hi'
   by_cases h1 : j = i'
   ·subst h1
    have e : (bs.set j (.v (.sl n cs))).getD j .gone = .v (.sl n cs) := by simp [List.getD, hi']
    rw [e]
    rcases hown with ⟨_, rfl, rfl, ee⟩ | ⟨b, ca, e1, e2, e3, e4, e5⟩
    ·simp only [CVR]; rw [ee]; exact FR.slNil
    ·simp only [CVR]; rw [e2]
     refine FR.sl n s' cs b 0 false ca ?_ e3 e4 (by rw [e5.1]; omega) fun i hi => ?_
     ·rintro (hm | ⟨k', c', hc⟩)
      ·exact (s.lt _ _ _ e1).2 hm
      ·exact hgone b e1 _ _ hc
     ·rw [Nat.zero_add]
      exact (e5.2 i hi).keep (Keeps.less hnf)
   ·have e : (bs.set j (.v (.sl n cs))).getD i' .gone = bs.getD i' .gone := by simp only [List.getD_eq_getElem?_getD, List.getElem?_set_ne h1]
    rw [e]
    have q := (g5 i' hi').keep (Keeps.less hnf) (fun _ _ => rfl)
    cases hci : bs.getD i' .gone with
    | v p => rw [hci] at q; exact q
    | gone => trivial
    | o n2 s2 cs2 =>
      rw [hci] at q
      simp only [CVR] at q ⊢
      have e : (if keep (some i') = true then β k (some i') else none) = β k (some i') := by rw [if_pos (by simpa [keep] using Ne.symm h1)]
      rw [e]; exact q
 obtain ⟨β1, h1, h2, h3, h4, _⟩ := q
 refine ⟨β1, h1, h2, h3, fun k' hk' => .inr (by unfold setC; rw [if_neg hk']), fun b hb ho => ?_, h4⟩
 obtain ⟨k', c⟩ := b
 by_cases hk' : k' = k
 ·subst hk'
  have e : setC t k' (.box (bs.set j (.v (.sl n cs)))) k' = .box (bs.set j (.v (.sl n cs))) := by unfold setC; rw [if_pos rfl]
  cases c with
  | none =>
    simp only [isOwnB, isOwnV, hk] at ho
    obtain ⟨ps, hu⟩ := Option.isSome_iff_exists.1 ho
    have := unv_map hu
    rw [this, cellC, List.getElem?_map] at hj
    cases hp : ps[j]? <;> rw [hp] at hj <;> cases hj
  | some j' =>
    have hne : j ≠ j' := fun he => hb (by rw [he])
    simp only [isOwnB, isOwnV, e, hk, cellC, List.getElem?_set_ne hne] at ho ⊢
    exact ho
 ·have e : setC t k (.box (bs.set j (.v (.sl n cs)))) k' = klC k (t k') := by unfold setC; rw [if_neg hk']
  simp only [isOwnB, e] at ho ⊢
  rw [isOwnV_klC]; exact ho
theorem frz1_not {b : Nat × Option Nat} (hb : isOwnB t b = false) : frz1 t b = t := by
 obtain ⟨k, c⟩ := b
 cases c with
 | none =>
   simp only [frz1]
   unfold isOwnB isOwnV at hb
   split
   ·rename_i hk
    simp only [hk] at hb
    cases hb
   ·rename_i bs hk
    simp only [hk] at hb
    split
    ·rename_i ps hu
     rw [hu] at hb; cases hb
    ·rfl
   ·rfl
 | some j =>
   simp only [frz1]
   unfold isOwnB isOwnV at hb
   split
   ·rename_i bs hk
    simp only [hk] at hb
    split
    ·rename_i hj
     simp only [hj] at hb
     cases hb
    ·rfl
   ·rfl
theorem frz1_sr (s : SR M β h t tA) {b : Nat × Option Nat} (hb : isOwnB t b = true) : ∃ β1, Frozen M β h t tA b.1 b.2 (frz1 t b) β1 := by
 obtain ⟨k, c⟩ := b
 unfold isOwnB isOwnV at hb
 split at hb
 ·rename_i hc hk
  simp only at hc hk
  subst hc
  simp only [frz1, hk]
  exact frz_own s hk
 ·rename_i bs hc hk
  simp only at hc hk
  subst hc
  obtain ⟨ps, hu⟩ := Option.isSome_iff_exists.1 hb
  simp only [frz1, hk, hu]
  exact frz_box s hk hu
 ·rename_i j bs hc hk
  simp only at hc hk
  subst hc
  split at hb
  ·rename_i hj
   simp only [frz1, hk, hj]
   exact frz_cell s hk hj
  ·cases hb
 ·cases hb
theorem frzs_sr : ∀ (bos : List (Nat × Option Nat)) {β : Bt} {t : TT}, SR M β h t tA → ∃ βf, SR M βf h (frzs bos t) tA ∧ (∀ k c x, βf k c = some x → β k c = some x) ∧ (∀ k c x, (k, c) ∈ bos → isOwnB t (k, c) = true → β k c = some x → ∀ k' c', βf k' c' ≠ some x) ∧
 (∀ k, (∀ b ∈ bos, b.1 ≠ k) → (∀ cs, t k = .box cs → frzs bos t k = .box cs) ∧ (∀ cs, t k = .hbox cs → frzs bos t k = .hbox cs) ∧ (∀ n s cs, t k = .own n s cs → frzs bos t k = .own n s cs) ∧ ∀ c, βf k c = β k c)
 | [], β, t, s => ⟨β, s, fun _ _ _ hx => hx, fun k c x hm => by simp at hm, fun k _ => ⟨fun _ e => e, fun _ e => e, fun _ _ _ e => e, fun _ => rfl⟩⟩
 | b :: bos, β, t, s => by
   simp only [frzs]
   cases hb : isOwnB t b with
   | false =>
     rw [frz1_not hb]
     obtain ⟨βf, h1, h2, h3, h4⟩ := frzs_sr bos s
     refine ⟨βf, h1, h2, fun k c x hm ho hx => ?_, fun k hk => h4 k fun b' hb' => hk b' (by simp [hb'])⟩
     rcases List.mem_cons.1 hm with e | hm
     ·rw [e, hb] at ho; cases ho
     ·exact h3 k c x hm ho hx
   | true =>
     obtain ⟨β1, fz⟩ := frz1_sr s hb
     obtain ⟨βf, h1, h2, h3, h4⟩ := frzs_sr bos fz.sr
     refine ⟨βf, h1, fun k c x hx => fz.sub _ _ _ (h2 k c x hx), fun k c x hm ho hx => ?_, fun k hk => ?_⟩
     ·by_cases he : (k, c) = b
      ·subst he
       intro k' c' hx'
       exact fz.gone x hx k' c' (h2 _ _ _ hx')
      ·rcases List.mem_cons.1 hm with e | hm
       ·exact absurd e he
       ·have ho' : isOwnB (frz1 t b) (k, c) = true := fz.own (k, c) (fun e => he e) ho
        intro k' c' hx'
        have g1 := h2 _ _ _ hx'
        obtain ⟨e1, e2⟩ := s.inj _ _ _ _ _ (fz.sub _ _ _ g1) hx
        subst e1 e2
        exact h3 _ _ x hm ho' g1 _ _ hx'
     ·have hne : k ≠ b.1 := Ne.symm (hk b (by simp))
      obtain ⟨g1, g2, g3, g4⟩ := h4 k fun b' hb' => hk b' (by simp [hb'])
      refine ⟨fun cs e => g1 cs ?_, fun cs e => g2 cs ?_, fun n s' cs e => g3 n s' cs ?_, fun c => by rw [g4 c, fz.keep k c hne]⟩ <;> (rcases fz.at_ k hne with q | q <;> rw [q, e] <;> rfl)
end
end Go.Wb
namespace Go.Wb
open Go
section
variable {M : Nat → Prop} {β βf : Bt} {h : Heap} {t t1 : TT} {tA : T} {r : Option (Value × Heap)} {v : TV}
theorem roV_ok (s : SR M β h t tA) {Nc : Nat → Prop} (hN : ∀ b, Nc b → NF M β b) {x : Operand} {p : PV} {bo : Option (Nat × Option Nat)} (hx : roV t x = some (p, bo)) (hb : ∀ k c b, bo = some (k, c) → β k c = some b → ¬ Nc b) :
 FR h Nc p (Ev tA x) := by
 have hk : Keeps h (NF M β) h Nc := Keeps.less hN
 unfold roV at hx
 split at hx
 ·rename_i p' he
  injection hx with hx; injection hx with e1 e2
  subst e1 e2
  exact (ev_val s he).keep hk
 ·split at hx
  ·rename_i k c off n s' hp
   have hpl := plcS_ok s hp
   rw [Option.map_eq_some_iff] at hx
   obtain ⟨⟨n1, cs⟩, hsl, hx⟩ := hx
   injection hx with e1 e2
   subst e1 e2
   rcases slv_ok s hsl with ⟨rfl, rfl, e | ⟨b, o, s', e⟩⟩ | ⟨b, o, s2, ro, ca, e, e3, e4, e5, e6⟩
   ·rw [e]; exact FR.slNil
   ·rw [e]; exact FR.slE _ _ _
   ·rw [e] at hpl ⊢
    rcases hpl with ⟨_, _, z2⟩ | ⟨b', z0, z1⟩
    ·cases z2
    ·injection z1 with z1 z2 z3
     injection z1 with z1
     injection z1 with z1 z4
     subst z1
     exact FR.sl n1 s2 cs b o ro ca (hb k c b rfl z0) e3 e4 e5 fun i hi => (e6 i hi).keep hk
  ·cases hx
theorem fillW_ok (s : SR M β h t tA) {Nc : Nat → Prop} (hN : ∀ b, Nc b → NF M β b) : ∀ {ps : List (Nat × Nat × Operand)} {cs l : List PV} {ca : List Value} {bos : List (Nat × Option Nat)}, FRs h Nc cs ca → fillW t cs ps = some (l, bos) →
 (∀ k c b, (k, c) ∈ bos → β k c = some b → ¬ Nc b) → ∃ la, fillL tA ca ps = some la ∧ FRs h Nc l la ∧ l.length = cs.length
 | [], cs, l, ca, bos, hf, hx, _ => by
   simp only [fillW] at hx; injection hx with hx; injection hx with e1 e2; subst e1
   exact ⟨ca, rfl, hf, rfl⟩
 | (off, size, x) :: ps, cs, l, ca, bos, hf, hx, hb => by
   simp only [fillW] at hx
   split at hx
   ·rename_i p bo he
    split at hx
    ·rename_i hc
     rw [Option.map_eq_some_iff] at hx
     obtain ⟨⟨l', bos'⟩, hx, e⟩ := hx
     injection e with e1 e2
     simp only at e1 e2
     subst e1 e2
     have hv := roV_ok s hN he (fun k c b hbo hβ => hb k c b (by subst hbo; simp [consO]) hβ)
     obtain ⟨h1, h2⟩ := frs_cells hv
     obtain ⟨la, q1, q2, q3⟩ := fillW_ok s hN (frs_append (frs_append (frs_take hf off) h1) (frs_drop hf (off + size))) hx
      (fun k c b hkc => hb k c b (by unfold consO; split <;> simp [hkc]))
     refine ⟨la, ?_, q2, ?_⟩
     ·simp only [fillL]
      rw [if_pos ⟨by rw [← h1.1]; exact hc.1, by rw [← hf.1]; exact hc.2, h2⟩]
      exact q1
     ·rw [q3]
      simp only [List.length_append, List.length_take, List.length_drop]
      omega
    ·cases hx
   ·cases hx
theorem Sound.sub (hsub : ∀ k c x, βf k c = some x → β k c = some x) (S : Sound M βf h tA r v t1) : Sound M β h tA r v t1 := by
 obtain ⟨a, h', e, S⟩ := S
 refine ⟨a, h', e, fun d => ?_⟩
 obtain ⟨β', f, s⟩ := S d
 exact ⟨β', Fr.trans ⟨Nat.le_refl _, fun _ _ _ => rfl, fun k c b hb => .inr ⟨k, c, hsub _ _ _ hb⟩⟩ f, s⟩
theorem bldW_sound (s : SR M β h t tA) {op : AOp} (hx : bldW t op = some (v, t1)) : Sound M β h tA (aOp op tA h) v t1 := by
 have frz : ∀ {bos : List (Nat × Option Nat)} {t2 : TT}, frzIf t bos = some t2 → ∃ βf, SR M βf h t2 tA ∧ (∀ k c x, βf k c = some x → β k c = some x) ∧ ∀ k c b, (k, c) ∈ bos → β k c = some b → ¬ NF M βf b := by
  intro bos t2 hf
  unfold frzIf at hf
  split at hf
  ·rename_i hall
   injection hf with hf
   subst hf
   obtain ⟨βf, h1, h2, h3, _⟩ := frzs_sr bos s
   refine ⟨βf, h1, h2, fun k c b hm hβ => ?_⟩
   rintro (hM | ⟨k', c', hc⟩)
   ·exact (s.lt _ _ _ hβ).2 hM
   ·exact h3 k c b hm (List.all_eq_true.1 hall _ hm) hβ _ _ hc
  ·cases hf
 have hnf : ∀ {βf : Bt}, (∀ k c x, βf k c = some x → β k c = some x) → ∀ b, NF M βf b → NF M β b := by
  intro βf hsub b hb
  rcases hb with hm | ⟨k', c, hc⟩
  ·exact .inl hm
  ·exact .inr ⟨k', c, hsub _ _ _ hc⟩
 cases op with
 | build z ps =>
   simp only [bldW] at hx
   split at hx
   ·rename_i l hz
    split at hx
    ·rename_i cs bos hf
     rw [Option.map_eq_some_iff] at hx
     obtain ⟨t2, hfz, hx⟩ := hx
     injection hx with e1 e2
     subst e1 e2
     obtain ⟨βf, s1, h2, h3⟩ := frz hfz
     obtain ⟨la, q1, q2, q3⟩ := fillW_ok s (hnf h2) (pvZs_frs hz) hf h3
     exact Sound.sub h2 (Sound.plain (by simp only [aOp, q1, Option.map_some]) Fr.refl s1 rfl (frs_agg q2))
    ·cases hx
   ·cases hx
 | buildSlice size n z ps =>
   simp only [bldW] at hx
   split at hx
   ·rename_i l hz
    split at hx
    ·rename_i cs bos hf
     split at hx
     ·rename_i hl
      rw [Option.map_eq_some_iff] at hx
      obtain ⟨t2, hfz, hx⟩ := hx
      injection hx with e1 e2
      subst e1 e2
      obtain ⟨βf, s1, h2, h3⟩ := frz hfz
      obtain ⟨la, q1, q2, q3⟩ := fillW_ok s (hnf h2) (frs_rep (pvCs_frs hz) n) hf h3
      exact Sound.sub h2 (Sound.newOwn (cells := la) (by simp only [aOp, q1, Option.map_some]) s1 hl.symm q2)
     ·cases hx
    ·cases hx
   ·cases hx
 | _ => simp only [bldW] at hx; cases hx
end
end Go.Wb
namespace Go.Wb
open Go
def ResR (p : Option Nat → Option Nat) (h : Heap) (N : Nat → Prop) (v : TV) (a : Value) : Prop :=
 if isRoot v then TRr p h N v a else TR (fun _ _ => none) h N 0 v a ∧ (match v with | .val _ | .undef => True | _ => False)
def CallSim (cw : CallFW) (ca : CallF) : Prop :=
 ∀ f avs hids res outs houts, cw f avs hids = some (res, outs, houts) → ∀ (M : Nat → Prop) (β : Bt) (h : Heap) (argsA : List Value), argsA.length = avs.length → avs.length ≤ hidB → SR M β h (argTT avs hids) (argT argsA) →
   ∃ (v : Value) (h' : Heap) (β' : Bt) (p : Option Nat → Option Nat) (X : Nat → Prop), ca f argsA h = some (v, h') ∧ outs.length = avs.length ∧ Fr β h β' h' ∧ SR (fun b => M b ∨ X b) β' h' (outTT outs houts) (argT argsA) ∧ (∀ c b, p c = some b → X b ∧ ¬ M b) ∧ (∀ c c' b, p c = some b → p c' = some b → c = c') ∧
     (∀ b, X b → h.length ≤ b ∨ ∃ k c, β k c = some b) ∧ ResR p h' (NF (fun b => M b ∨ X b) β') (resTV res) v ∧
     (∀ (j f : Nat) (caps : List (Nat ⊕ PV)), avs[j]? = some (AV.clo f caps) → ∃ (f' : Nat) (caps' : List (Nat ⊕ PV)), outs[j]? = some (AV.clo f' caps') ∧ sameCaps caps caps' = true)
theorem argTT'_at : ∀ (avs : List AV) (i0 : Nat) (t : TT) (i : Nat), argTT' i0 avs t i = if i0 ≤ i then (match avs[i - i0]? with | some a => tvA a | none => t i) else t i
 | [], i0, t, i => by simp [argTT']
 | a :: l, i0, t, i => by
   simp only [argTT', updT]
   by_cases h1 : i = i0
   ·subst h1; simp
   ·rw [if_neg h1, argTT'_at l (i0 + 1) t i]
    by_cases h2 : i0 ≤ i
    ·have e : i - i0 = (i - (i0 + 1)) + 1 := by omega
     rw [if_pos (by omega), if_pos h2, e, List.getElem?_cons_succ]
    ·rw [if_neg (by omega), if_neg h2]
theorem outTT'_at : ∀ (avs : List AV) (i0 : Nat) (t : TT) (i : Nat), outTT' i0 avs t i = if i0 ≤ i then (match avs[i - i0]? with | some a => tvO a | none => t i) else t i
 | [], i0, t, i => by simp [outTT']
 | a :: l, i0, t, i => by
   simp only [outTT', updT]
   by_cases h1 : i = i0
   ·subst h1; simp
   ·rw [if_neg h1, outTT'_at l (i0 + 1) t i]
    by_cases h2 : i0 ≤ i
    ·have e : i - i0 = (i - (i0 + 1)) + 1 := by omega
     rw [if_pos (by omega), if_pos h2, e, List.getElem?_cons_succ]
    ·rw [if_neg (by omega), if_neg h2]
theorem hidT_at : ∀ (hs : List (List CV)) (i0 i : Nat), hidT i0 hs i = if i0 ≤ i then (match hs[i - i0]? with | some cs => .hbox cs | none => .undef) else .undef
 | [], i0, i => by simp [hidT, botT]
 | a :: l, i0, i => by
   simp only [hidT, updT]
   by_cases h1 : i = i0
   ·subst h1; simp
   ·rw [if_neg h1, hidT_at l (i0 + 1) i]
    by_cases h2 : i0 ≤ i
    ·have e : i - i0 = (i - (i0 + 1)) + 1 := by omega
     rw [if_pos (by omega), if_pos h2, e, List.getElem?_cons_succ]
    ·rw [if_neg (by omega), if_neg h2]
def lk (ds : List (Nat × Nat)) (hs : List Nat) (i : Nat) : Option Nat := if i < hidB then lookA ds i else hs[i - hidB]?
def bC (β : Bt) (ds : List (Nat × Nat)) (hs : List Nat) : Bt := fun i c => match lk ds hs i with
 | some k => β k c
 | none => none
section
variable {M : Nat → Prop} {β : Bt} {h : Heap} {t : TT} {tA : T}
theorem getD_map_ev {args : List Operand} {q : Nat} {x : Operand} (hx : args[q]? = some x) : (args.map (Ev tA)).getD q Go.undef = Ev tA x := by
 simp [List.getD, hx]
theorem renum_at : ∀ (caps : List (Nat ⊕ PV)) (hn j : Nat), (renum hn caps).length = caps.length ∧ (∀ p, caps[j]? = some (.inr p) → (renum hn caps)[j]? = some (.inr p)) ∧
 (∀ k, caps[j]? = some (.inl k) → ∃ i, (renum hn caps)[j]? = some (.inl (hidB + hn + i)) ∧ (rootsOf caps)[i]? = some k)
 | [], hn, j => by simp [renum]
 | .inl k0 :: l, hn, 0 => by
   have := renum_at l (hn + 1) 0
   refine ⟨by simp [renum, this.1], by simp, fun k hk => ⟨0, ?_, ?_⟩⟩
   ·simp [renum]
   ·simpa [rootsOf] using hk
 | .inl k0 :: l, hn, j + 1 => by
   obtain ⟨h1, h2, h3⟩ := renum_at l (hn + 1) j
   refine ⟨by simp [renum, h1], fun p hp => by simpa [renum] using h2 p (by simpa using hp), fun k hk => ?_⟩
   obtain ⟨i, q1, q2⟩ := h3 k (by simpa using hk)
   exact ⟨i + 1, by simp only [renum, List.getElem?_cons_succ, q1]; congr 2; omega, by simpa [rootsOf] using q2⟩
 | .inr p0 :: l, hn, 0 => by
   have := renum_at l hn 0
   exact ⟨by simp [renum, this.1], fun p hp => by simpa [renum] using hp, by simp⟩
 | .inr p0 :: l, hn, j + 1 => by
   obtain ⟨h1, h2, h3⟩ := renum_at l hn j
   refine ⟨by simp [renum, h1], fun p hp => by simpa [renum] using h2 p (by simpa using hp), fun k hk => ?_⟩
   obtain ⟨i, q1, q2⟩ := h3 k (by simpa using hk)
   exact ⟨i, by simpa [renum] using q1, by simpa [rootsOf] using q2⟩
theorem arg_ok (s : SR M β h t tA) {βf βc : Bt} {Nc : Nat → Prop} (hsub : ∀ k c x, βf k c = some x → β k c = some x) (hN : ∀ b, Nc b → NF M β b) {io : Bool} {hn i : Nat} {x : Operand} {av : AV} {d : Option Nat} {hs : List Nat} {bo : Option (Nat × Option Nat)}
 (hx : arg1 io hn t x = some (av, d, hs, bo)) (hd : ∀ k, d = some k → (∀ c, βc i c = β k c)) (hh : ∀ q k, hs[q]? = some k → βc (hidB + hn + q) none = β k none)
 (hb : ∀ k c b, bo = some (k, c) → β k c = some b → ¬ Nc b) : TR βc h Nc i (tvA av) (Ev tA x) := by
 have hk : Keeps h (NF M β) h Nc := Keeps.less hN
 unfold arg1 at hx
 split at hx
 ·rename_i f caps he
  injection hx with hx; injection hx with e1 hx; injection hx with e2 hx; injection hx with e3 e4
  subst e1 e2 e3 e4
  have htr : TR β h (NF M β) 0 (.clo f caps) (Ev tA x) := by
   cases x with
   | tmp i => have := s.tr i; simp only [EvT] at he; rw [he] at this; exact this
   | const v => simp only [EvT] at he; split at he <;> cases he
   | global g => cases he
   | func f => cases he
  obtain ⟨as, q1, q2, q3⟩ := htr
  refine ⟨as, q1, by rw [(renum_at caps hn 0).1]; exact q2, fun j hj => ?_⟩
  rw [(renum_at caps hn 0).1] at hj
  obtain ⟨_, r2, r3⟩ := renum_at caps hn j
  have q4 := q3 j hj
  have hcj : caps[j]? = some (caps.getD j (.inl 0)) := getD_lt hj
  cases hc : caps.getD j (.inl 0) with
  | inr p =>
    rw [hc] at q4 hcj
    rw [List.getD_eq_getElem?_getD, r2 p hcj]
    exact FR.keep q4 hk
  | inl k =>
    rw [hc] at q4 hcj
    obtain ⟨q, g1, g2⟩ := r3 k hcj
    rw [List.getD_eq_getElem?_getD, g1]
    obtain ⟨b, z1, z2⟩ := q4
    exact ⟨b, by rw [hh q k g2]; exact z1, z2⟩
 ·rename_i p he
  injection hx with hx; injection hx with e1 hx; injection hx with e2 hx; injection hx with e3 e4
  subst e1 e2 e3 e4
  exact (ev_val s he).keep hk
 ·split at hx
  ·rename_i k hp
   split at hx
   ·rename_i cs hkc
    injection hx with hx; injection hx with e1 hx; injection hx with e2 hx; injection hx with e3 e4
    subst e1 e2 e3 e4
    obtain ⟨b, hb1, hb2⟩ := plc_ok s hp
    obtain ⟨ca, h1, h2, h3, h4⟩ := at_box s hkc hb1
    have hβ : βc i = β k := funext (hd k rfl)
    have : TRr (β k) h Nc (.box cs) (Ev tA x) := ⟨b, ca, hb1, hb2, h2, h3, fun j hj => (h4 j hj).keep hk (fun _ _ => rfl)⟩
    show TRr (βc i) h Nc (.box cs) (Ev tA x)
    rw [hβ]; exact this
   ·cases hx
  ·cases hx
  ·split at hx
   ·rename_i k c off n s' hp
    have hpl := plcS_ok s hp
    split at hx
    ·split at hx
     ·rename_i n' s2 cs hkc
      split at hx
      ·rename_i hcond
       obtain ⟨rfl, rfl⟩ := hcond
       injection hx with hx; injection hx with e1 hx; injection hx with e2 hx; injection hx with e3 e4
       subst e1 e2 e3 e4
       have hβ : βc i = β k := funext (hd k rfl)
       have hroot := s.tr k
       rw [hkc] at hroot
       have : TRr (β k) h Nc (.own n s' cs) (Ev tA x) := by
        rcases hpl with ⟨z0, z1, z2⟩ | ⟨b, z0, z1⟩
        ·rcases hroot with ⟨_, _, r2, _⟩ | ⟨b, ca, r1, _⟩
         ·exact .inl ⟨z0, z1, r2, z2⟩
         ·rw [z0] at r1; cases r1
        ·obtain ⟨ca, g1, g2, g3, g4⟩ := at_own s hkc z0
         exact .inr ⟨b, ca, z0, z1, g2, g3, g4.keep hk⟩
       show TRr (βc i) h Nc (.own n s' cs) (Ev tA x)
       rw [hβ]; exact this
      ·cases hx
     ·cases hx
    ·rw [Option.map_eq_some_iff] at hx
     obtain ⟨⟨n1, cs⟩, hsl, hx⟩ := hx
     injection hx with e1 hx; injection hx with e2 hx; injection hx with e3 e4
     subst e1 e2 e3 e4
     rcases slv_ok s hsl with ⟨rfl, rfl, e | ⟨b, o, s', e⟩⟩ | ⟨b, o, s2, ro, ca, e, e3, e4, e5, e6⟩
     ·simp only [tvA, TR]; rw [e]; exact FR.slNil
     ·simp only [tvA, TR]; rw [e]; exact FR.slE _ _ _
     ·simp only [tvA, TR]
      rw [e] at hpl ⊢
      rcases hpl with ⟨_, _, z2⟩ | ⟨b', z0, z1⟩
      ·cases z2
      ·injection z1 with z1 z2 z3
       injection z1 with z1
       injection z1 with z1 z4
       subst z1
       exact FR.sl n1 s2 cs b o ro ca (hb k c b rfl z0) e3 e4 e5 fun i hi => (e6 i hi).keep hk
   ·cases hx
theorem args_ok (s : SR M β h t tA) {βf βc : Bt} {Nc : Nat → Prop} (hsub : ∀ k c x, βf k c = some x → β k c = some x) (hN : ∀ b, Nc b → NF M β b) {io : List Nat} : ∀ (args : List Operand) (j hn : Nat) (a : Args), argsW io t j hn args = some a →
 (∀ i k, (i, k) ∈ a.ds → ∀ c, βc i c = β k c) → (∀ q k, a.hs[q]? = some k → βc (hidB + hn + q) none = β k none) → (∀ k c b, (k, c) ∈ a.bos → β k c = some b → ¬ Nc b) →
 a.avs.length = args.length ∧ ∀ q av, a.avs[q]? = some av → TR βc h Nc (j + q) (tvA av) ((args.map (Ev tA)).getD q Go.undef)
 | [], j, hn, a, hx, _, _, _ => by
   simp only [argsW] at hx
   injection hx with hx; subst hx
   exact ⟨rfl, by simp⟩
 | x :: l, j, hn, a, hx, hd, hh, hb => by
   simp only [argsW] at hx
   split at hx
   ·cases hx
   ·rename_i av d hs bo h1
    split at hx
    ·cases hx
    ·rename_i r h2
     injection hx with hx
     subst hx
     have ih := args_ok s hsub hN l (j + 1) (hn + hs.length) r h2
      (fun i k hik => hd i k (by simp only; split <;> simp [hik]))
      (fun q k hq => by
       have := hh (hs.length + q) k (by simp only; rw [List.getElem?_append_right (by omega)]; simpa using hq)
       rwa [show hidB + hn + (hs.length + q) = hidB + (hn + hs.length) + q from by omega] at this)
      (fun k c b hkc => hb k c b (by simp only; split <;> simp [hkc]))
     refine ⟨by simp [ih.1], fun q av' hq => ?_⟩
     cases q with
     | zero =>
       simp only [List.getElem?_cons_zero, Option.some.injEq] at hq
       subst hq
       simp only [List.map_cons, List.getD_cons_zero, Nat.add_zero]
       exact arg_ok s hsub hN h1 (fun k hk => hd j k (by subst hk; simp)) (fun q k hq => hh q k (by simp only; rw [List.getElem?_append_left (List.getElem?_eq_some_iff.1 hq).1]; exact hq))
        (fun k c b hbo hβ => hb k c b (by subst hbo; simp) hβ)
     | succ q =>
       have := ih.2 q av' (by simpa using hq)
       rw [show j + 1 + q = j + (q + 1) from by omega] at this
       simpa using this
theorem ds_ge : ∀ (args : List Operand) (io : List Nat) (j hn : Nat) (a : Args), argsW io t j hn args = some a → (∀ i k, (i, k) ∈ a.ds → j ≤ i ∧ i < j + args.length) ∧ ∀ i k, (i, k) ∈ a.ds → lookA a.ds i = some k
 | [], io, j, hn, a, hx => by
   simp only [argsW] at hx
   injection hx with hx; subst hx
   simp
 | x :: l, io, j, hn, a, hx => by
   simp only [argsW] at hx
   split at hx
   ·cases hx
   ·rename_i av d hs bo h1
    split at hx
    ·cases hx
    ·rename_i r h2
     injection hx with hx
     subst hx
     obtain ⟨i1, i2⟩ := ds_ge l io (j + 1) (hn + hs.length) r h2
     cases d with
     | none =>
       simp only
       exact ⟨fun i k hik => by have := i1 i k hik; simp only [List.length_cons]; omega, i2⟩
     | some k0 =>
       simp only
       constructor
       ·intro i k hik
        simp only [List.length_cons]
        rcases List.mem_cons.1 hik with e | hik
        ·injection e with e1 e2; omega
        ·have := i1 i k hik; omega
       ·intro i k hik
        simp only [lookA]
        rcases List.mem_cons.1 hik with e | hik'
        ·injection e with e1 e2
         rw [if_pos e1, e2]
        ·have := i1 i k hik'
         rw [if_neg (by omega)]
         exact i2 i k hik'
end
end Go.Wb
namespace Go.Wb
open Go
theorem nodupN_ok : ∀ {l : List Nat}, nodupN l = true → l.Nodup
 | [], _ => List.nodup_nil
 | k :: l, hx => by
   simp only [nodupN, Bool.and_eq_true, Bool.not_eq_true'] at hx
   rw [List.nodup_cons]
   exact ⟨by simpa using hx.1, nodupN_ok hx.2⟩
def Kd (ks : List Nat) (u u' : TV) : Prop := (u' = .undef ∧ isRoot u = false) ∨ (u' = u ∧ (∀ k c off, u = .ref k (some c) off → k ∉ ks) ∧ (∀ k c off n s, u = .slc k (some c) off n s → k ∉ ks))
theorem klC_kd {ks : List Nat} {k : Nat} {u u' : TV} (h : Kd ks u u') : Kd (k :: ks) u (klC k u') := by
 rcases h with ⟨rfl, h0⟩ | ⟨rfl, h1, h2⟩
 ·exact .inl ⟨rfl, h0⟩
 ·cases u' with
  | ref k' c off =>
    cases c with
    | none => exact .inr ⟨rfl, by simp, by simp⟩
    | some c =>
      simp only [klC]
      split
      ·exact .inl ⟨rfl, rfl⟩
      ·rename_i hk
       refine .inr ⟨rfl, fun k2 c2 off2 e => ?_, by simp⟩
       injection e with e1 e2 e3
       subst e1
       simp only [List.mem_cons, not_or]
       exact ⟨hk, h1 _ c _ rfl⟩
  | slc k' c off n s =>
    cases c with
    | none => exact .inr ⟨rfl, by simp, by simp⟩
    | some c =>
      simp only [klC]
      split
      ·exact .inl ⟨rfl, rfl⟩
      ·rename_i hk
       refine .inr ⟨rfl, by simp, fun k2 c2 off2 n2 s2 e => ?_⟩
       injection e with e1 e2 e3
       subst e1
       simp only [List.mem_cons, not_or]
       exact ⟨hk, h2 _ c _ _ _ rfl⟩
  | _ => exact .inr ⟨rfl, by simp, by simp⟩
theorem Kd.root {ks : List Nat} {u u' : TV} (h : Kd ks u u') (hr : isRoot u = true) : u' = u := by
 rcases h with ⟨_, h0⟩ | ⟨h, _⟩
 ·rw [hr] at h0; cases h0
 ·exact h
theorem Kd.mono {ks ks' : List Nat} {u u' : TV} (h : Kd ks u u') (hs : ∀ k, k ∈ ks' → k ∈ ks) : Kd ks' u u' := by
 rcases h with h | ⟨h, h1, h2⟩
 ·exact .inl h
 ·exact .inr ⟨h, fun k c off e hk => h1 k c off e (hs k hk), fun k c off n s e hk => h2 k c off n s e (hs k hk)⟩
theorem Kd.refl {u : TV} : Kd [] u u := .inr ⟨rfl, by simp, by simp⟩
theorem backs_at : ∀ {ds : List (Nat × Nat)} {outs : List AV} {t t' : TT}, backs outs ds t = some t' → (ds.map (·.2)).Nodup →
 (∀ j k, (j, k) ∈ ds → ∃ a v, outs[j]? = some a ∧ backTV (t k) a = some v ∧ t' k = v) ∧ ∀ i, i ∉ ds.map (·.2) → Kd (ds.map (·.2)) (t i) (t' i)
 | [], outs, t, t', hx, _ => by
   simp only [backs] at hx; injection hx with hx; subst hx
   exact ⟨by simp, fun i _ => .refl⟩
 | (j, k) :: l, outs, t, t', hx, hn => by
   simp only [backs] at hx
   rw [List.map_cons, List.nodup_cons] at hn
   split at hx
   ·rename_i a ha
    split at hx
    ·rename_i v t2 h1 h2
     injection hx with hx; subst hx
     obtain ⟨i1, i2⟩ := backs_at h2 hn.2
     constructor
     ·intro j' k' hm
      rcases List.mem_cons.1 hm with e | hm
      ·injection e with e1 e2; subst e1 e2
       exact ⟨a, v, ha, h1, by unfold setC; rw [if_pos rfl]⟩
      ·obtain ⟨a', v', q1, q2, q3⟩ := i1 j' k' hm
       have hne : k' ≠ k := fun e => hn.1 (e ▸ List.mem_map.2 ⟨(j', k'), hm, rfl⟩)
       refine ⟨a', v', q1, q2, ?_⟩
       unfold setC; rw [if_neg hne, q3]
       unfold backTV at q2
       split at q2
       ·injection q2 with q2; subst q2; unfold backH; split <;> rfl
       ·split at q2
        ·split at q2
         ·injection q2 with q2; subst q2; rfl
         ·cases q2
        ·cases q2
       ·cases q2
     ·intro i hi
      simp only [List.map_cons, List.mem_cons, not_or] at hi
      unfold setC; rw [if_neg hi.1]
      exact klC_kd (i2 i hi.2)
    ·cases hx
   ·cases hx
theorem backHs_at : ∀ {hs : List Nat} {houts : List (List CV)} {t t' : TT}, backHs houts hs t = some t' → hs.Nodup →
 (∀ (q k : Nat), hs[q]? = some k → ∃ cs, houts[q]? = some cs ∧ t' k = backH (t k) cs) ∧ ∀ i, i ∉ hs → Kd hs (t i) (t' i)
 | [], [], t, t', hx, _ => by
   simp only [backHs] at hx; injection hx with hx; subst hx
   exact ⟨by simp, fun i _ => .refl⟩
 | [], _ :: _, t, t', hx, _ => by simp [backHs] at hx
 | k :: l, [], t, t', hx, _ => by simp [backHs] at hx
 | k :: l, cs :: r, t, t', hx, hn => by
   simp only [backHs, Option.map_eq_some_iff] at hx
   rw [List.nodup_cons] at hn
   obtain ⟨t2, h2, rfl⟩ := hx
   obtain ⟨i1, i2⟩ := backHs_at h2 hn.2
   constructor
   ·intro q k' hq
    cases q with
    | zero =>
      have : k = k' := by simpa using hq
      subst this
      exact ⟨cs, rfl, by unfold setC; rw [if_pos rfl]⟩
    | succ q =>
      obtain ⟨cs', q1, q2⟩ := i1 q k' (by simpa using hq)
      have hm : k' ∈ l := List.mem_of_getElem? (by simpa using hq)
      have hne : k' ≠ k := fun e => hn.1 (e ▸ hm)
      refine ⟨cs', by simpa using q1, ?_⟩
      unfold setC; rw [if_neg hne, q2]
      unfold backH; split <;> rfl
   ·intro i hi
    simp only [List.mem_cons, not_or] at hi
    unfold setC; rw [if_neg hi.1]
    exact klC_kd (i2 i hi.2)
section
variable {M : Nat → Prop} {β : Bt} {h : Heap} {t : TT} {tA : T}
theorem noRefA {r : RW} (hr : refRW r = false) : (∀ c ∈ r.1, refC c = false) ∧ (∀ a ∈ r.2.1, refA a = false) ∧ ∀ cs ∈ r.2.2, refCs cs = false := by
 unfold refRW at hr
 simp only [Bool.or_eq_false_iff] at hr
 refine ⟨fun c hc => ?_, fun a ha => ?_, fun cs hcs => ?_⟩
 ·have := hr.1.1; unfold refCs at this; rw [List.any_eq_false] at this; simpa using this c hc
 ·have := hr.1.2; rw [List.any_eq_false] at this; simpa using this a ha
 ·have := hr.2; rw [List.any_eq_false] at this; simpa using this cs hcs
theorem getD_mem' {α : Type} {l : List α} {i : Nat} {d : α} (hi : i < l.length) : l.getD i d ∈ l := by
 simp [List.getD, hi]
theorem box_noRef {p : Option Nat → Option Nat} {N N' : Nat → Prop} {cs : List CV} {a : Value} (hr : refCs cs = false) (hb : TRr p h N (.box cs) a) : TRr p h N' (.box cs) a := by
 obtain ⟨b, ca, h1, h2, h3, h4, h5⟩ := hb
 refine ⟨b, ca, h1, h2, h3, h4, fun j hj => cvr_noRef ?_ (h5 j hj)⟩
 unfold refCs at hr; rw [List.any_eq_false] at hr
 simpa using hr _ (getD_mem' hj)
theorem hbox_noRef {p : Option Nat → Option Nat} {N N' : Nat → Prop} {cs : List CV} {a : Value} (hr : refCs cs = false) (hb : TRr p h N (.hbox cs) a) : TRr p h N' (.hbox cs) a := by
 obtain ⟨b, ca, h1, h3, h4, h5⟩ := hb
 refine ⟨b, ca, h1, h3, h4, fun j hj => cvr_noRef ?_ (h5 j hj)⟩
 unfold refCs at hr; rw [List.any_eq_false] at hr
 simpa using hr _ (getD_mem' hj)
theorem resR_noRef {p : Option Nat → Option Nat} {N N' : Nat → Prop} {res : List CV} {a : Value} (hr : ∀ c ∈ res, refC c = false) (hv : ResR p h N (resTV res) a) : ResR p h N' (resTV res) a := by
 unfold ResR at hv ⊢
 match res, hr with
 | [c], hr =>
   have hc := hr c (by simp)
   cases c with
   | v q =>
     simp only [resTV, tvC, isRoot] at hv ⊢
     exact ⟨fr_noRef q a hc hv.1, trivial⟩
   | gone => simp only [resTV, tvC, isRoot] at hv ⊢; exact ⟨trivial, trivial⟩
   | o n s cs =>
     simp only [resTV, tvC, isRoot, if_true] at hv ⊢
     rcases hv with hv | ⟨b, ca, h1, h2, h3, h4, h5⟩
     ·exact .inl hv
     ·exact .inr ⟨b, ca, h1, h2, h3, h4, frs_noRef cs ca hc h5⟩
 | [], hr =>
   simp only [resTV, isRoot, if_true] at hv ⊢
   obtain ⟨as, h1, h2, h3⟩ := hv
   exact ⟨as, h1, h2, fun j hj => by simp at hj⟩
 | c1 :: c2 :: l, hr =>
   simp only [resTV, isRoot, if_true] at hv ⊢
   obtain ⟨as, h1, h2, h3⟩ := hv
   exact ⟨as, h1, h2, fun j hj => cvr_noRef (hr _ (getD_mem' hj)) (h3 j hj)⟩
theorem ResR.keep {p : Option Nat → Option Nat} {N N' : Nat → Prop} {v : TV} {a : Value} (hv : ResR p h N v a) (hk : Keeps h N h N') : ResR p h N' v a := by
 unfold ResR at hv ⊢
 split
 ·rename_i hr
  rw [if_pos hr] at hv
  exact hv.keep hk (fun _ _ _ => rfl)
 ·rename_i hr
  rw [if_neg hr] at hv
  exact ⟨hv.1.keep hk (fun _ _ _ => rfl), hv.2⟩
structure ArgsOk (M : Nat → Prop) (β : Bt) (h : Heap) (t : TT) (a : Args) (argsA : List Value) : Prop where
 len : argsA.length = a.avs.length
 le : a.avs.length ≤ hidB
 ok : ∀ (βc : Bt) (Nc : Nat → Prop), (∀ b, Nc b → NF M β b) → (∀ i k, (i, k) ∈ a.ds → ∀ c, βc i c = β k c) → (∀ q k, a.hs[q]? = some k → βc (hidB + q) none = β k none) → (∀ k c b, (k, c) ∈ a.bos → β k c = some b → ¬ Nc b) →
  ∀ q av, a.avs[q]? = some av → TR βc h Nc q (tvA av) (argsA.getD q Go.undef)
 ds : ∀ i k, (i, k) ∈ a.ds → lookA a.ds i = some k ∧ i < a.avs.length
 root : ∀ i k, (i, k) ∈ a.ds → ∃ av, a.avs[i]? = some av ∧ ((∃ cs, av = .box cs ∧ boxC t k = some cs) ∨ ∃ n s cs, av = .own n s cs ∧ t k = .own n s cs)
 clo : ∀ (q k : Nat), a.hs[q]? = some k → ∃ (j f : Nat) (caps : List (Nat ⊕ PV)) (x : Nat), a.avs[j]? = some (AV.clo f caps) ∧ caps[x]? = some (Sum.inl (hidB + q))
 nd : (a.ds.map (·.2) ++ a.hs).Nodup
 bo : ∀ b, b ∈ a.bos → b.1 ∉ a.ds.map (·.2) ++ a.hs
theorem sameCaps_at : ∀ {l l' : List (Nat ⊕ PV)} {x k : Nat}, sameCaps l l' = true → l[x]? = some (.inl k) → l'[x]? = some (.inl k)
 | [], l', x, k, _, hx => by simp at hx
 | .inl a :: l, [], x, k, hs, _ => by simp [sameCaps] at hs
 | .inr a :: l, [], x, k, hs, _ => by simp [sameCaps] at hs
 | .inl a :: l, .inl b :: l', 0, k, hs, hx => by
   simp only [sameCaps, Bool.and_eq_true, beq_iff_eq] at hs
   simp only [List.getElem?_cons_zero, Option.some.injEq, Sum.inl.injEq] at hx ⊢
   omega
 | .inl a :: l, .inl b :: l', x + 1, k, hs, hx => by
   simp only [sameCaps, Bool.and_eq_true] at hs
   simp only [List.getElem?_cons_succ] at hx ⊢
   exact sameCaps_at hs.2 hx
 | .inl a :: l, .inr b :: l', x, k, hs, hx => by simp [sameCaps] at hs
 | .inr a :: l, .inl b :: l', x, k, hs, hx => by simp [sameCaps] at hs
 | .inr a :: l, .inr b :: l', 0, k, hs, hx => by simp at hx
 | .inr a :: l, .inr b :: l', x + 1, k, hs, hx => by
   simp only [sameCaps] at hs
   simp only [List.getElem?_cons_succ] at hx ⊢
   exact sameCaps_at hs hx
theorem boxesC_at : ∀ {hs : List Nat} {hc : List (List CV)}, boxesC t hs = some hc → hc.length = hs.length ∧ ∀ (q k : Nat) (cs : List CV), hs[q]? = some k → hc[q]? = some cs → boxC t k = some cs
 | [], hc, hx => by simp only [boxesC] at hx; injection hx with hx; subst hx; exact ⟨rfl, by simp⟩
 | k :: l, hc, hx => by
   simp only [boxesC] at hx
   split at hx
   ·rename_i cs r h1 h2
    injection hx with hx; subst hx
    obtain ⟨i1, i2⟩ := boxesC_at h2
    refine ⟨by simp [i1], fun q k' cs' h3 h4 => ?_⟩
    cases q with
    | zero =>
      simp only [List.getElem?_cons_zero, Option.some.injEq] at h3 h4
      subst h3 h4; exact h1
    | succ q => exact i2 q k' cs' (by simpa using h3) (by simpa using h4)
   ·cases hx
theorem boxC_tr {N : Nat → Prop} {k : Nat} {cs : List CV} {a a' : Value} (hk : boxC t k = some cs) (htr : TR β h N k (t k) a') : TRr (β k) h N (.hbox cs) a := by
 unfold boxC at hk
 split at hk
 ·rename_i cs' e
  injection hk with hk; subst hk
  rw [e] at htr
  obtain ⟨b, ca, h1, h2, h3, h4, h5⟩ := htr
  exact ⟨b, ca, h1, h3, h4, h5⟩
 ·rename_i cs' e
  injection hk with hk; subst hk
  rw [e] at htr
  exact htr
 ·cases hk
end
end Go.Wb
namespace Go.Wb
open Go
section
variable {M : Nat → Prop} {β : Bt} {h : Heap} {t : TT} {tA : T}
theorem lookA_mem : ∀ {l : List (Nat × Nat)} {i k : Nat}, lookA l i = some k → (i, k) ∈ l
 | [], i, k, hx => by simp [lookA] at hx
 | (j, s) :: l, i, k, hx => by
   simp only [lookA] at hx
   split at hx
   ·rename_i e
    injection hx with hx
    subst e hx
    simp
   ·exact List.mem_cons.2 (.inr (lookA_mem hx))
theorem nodup_snd : ∀ {l : List (Nat × Nat)} {i i' k : Nat}, (l.map (·.2)).Nodup → (i, k) ∈ l → (i', k) ∈ l → i = i'
 | [], i, i', k, _, h1, _ => by simp at h1
 | (j, s) :: l, i, i', k, hn, h1, h2 => by
   rw [List.map_cons, List.nodup_cons] at hn
   rcases List.mem_cons.1 h1 with e1 | e1 <;> rcases List.mem_cons.1 h2 with e2 | e2
   ·injection e1 with a1 a2; injection e2 with b1 b2; omega
   ·injection e1 with a1 a2; subst a2
    exact absurd (List.mem_map.2 ⟨(i', k), e2, rfl⟩) hn.1
   ·injection e2 with a1 a2; subst a2
    exact absurd (List.mem_map.2 ⟨(i, k), e1, rfl⟩) hn.1
   ·exact nodup_snd hn.2 e1 e2
theorem nodup_idx {l : List Nat} {q q' k : Nat} (hn : l.Nodup) (h1 : l[q]? = some k) (h2 : l[q']? = some k) : q = q' := by
 have a1 := (List.getElem?_eq_some_iff.1 h1)
 have a2 := (List.getElem?_eq_some_iff.1 h2)
 obtain ⟨l1, e1⟩ := a1
 obtain ⟨l2, e2⟩ := a2
 exact (List.getElem_inj hn).1 (e1.trans e2.symm)
open Classical in
noncomputable def newB (ds : List (Nat × Nat)) (hs : List Nat) (β' βf : Bt) : Bt := fun k c => if hk : ∃ i, lk ds hs i = some k then β' (Classical.choose hk) c else βf k c
theorem after_sound {cw : CallFW} {ca : CallF} (hsim : CallSim cw ca) (s : SR M β h t tA) {name : String} {a : Args} {argsA : List Value} (ok : ArgsOk M β h t a argsA) {hc : List (List CV)} {r : RW} {v : TV} {t3 : TT} (hb : boxesC t a.hs = some hc)
 (hcall : cw name a.avs hc = some r) (haft : afterW t a r = some (v, t3)) : Sound M β h tA (ca name argsA h) v t3 := by
 obtain ⟨res, outs, houts⟩ := r
 obtain ⟨hcl, hcat⟩ := boxesC_at hb
 have hks : ∀ i k, lk a.ds a.hs i = some k → k ∈ a.ds.map (·.2) ++ a.hs := by
  intro i k hi
  unfold lk at hi
  split at hi
  ·exact List.mem_append.2 (.inl (List.mem_map.2 ⟨(i, k), lookA_mem hi, rfl⟩))
  ·exact List.mem_append.2 (.inr (List.mem_of_getElem? hi))
 have hnd := ok.nd
 rw [List.nodup_append] at hnd
 obtain ⟨nd1, nd2, nd3⟩ := hnd
 have lkinj : ∀ i i' k, lk a.ds a.hs i = some k → lk a.ds a.hs i' = some k → i = i' := by
  intro i i' k h1 h2
  unfold lk at h1 h2
  split at h1 <;> split at h2
  ·exact nodup_snd nd1 (lookA_mem h1) (lookA_mem h2)
  ·exact absurd rfl (nd3 k (List.mem_map.2 ⟨(i, k), lookA_mem h1, rfl⟩) k (List.mem_of_getElem? h2))
  ·exact absurd rfl (nd3 k (List.mem_map.2 ⟨(i', k), lookA_mem h2, rfl⟩) k (List.mem_of_getElem? h1))
  ·have := nodup_idx nd2 h1 h2
   omega
 have lkds : ∀ i k, (i, k) ∈ a.ds → lk a.ds a.hs i = some k := by
  intro i k hik
  obtain ⟨h1, h2⟩ := ok.ds i k hik
  unfold lk
  rw [if_pos (by have := ok.le; omega)]
  exact h1
 have lkhs : ∀ (q k : Nat), a.hs[q]? = some k → lk a.ds a.hs (hidB + q) = some k := by
  intro q k hq
  unfold lk
  rw [if_neg (by omega), Nat.add_sub_cancel_left]
  exact hq
 have lkof : ∀ k, k ∈ a.ds.map (·.2) ++ a.hs → ∃ i, lk a.ds a.hs i = some k := by
  intro k hk
  rcases List.mem_append.1 hk with hk | hk
  ·obtain ⟨⟨i, k'⟩, h1, rfl⟩ := List.mem_map.1 hk
   exact ⟨i, lkds i k' h1⟩
  ·obtain ⟨q, hq⟩ := List.getElem?_of_mem hk
   exact ⟨_, lkhs q k hq⟩
 have hfz : ∃ t1 βf, (match backHs houts a.hs t1 with | none => none | some t2 => (backs outs a.ds t2).map fun t3 => (resTV res, t3)) = some (v, t3) ∧ SR M βf h t1 tA ∧ (∀ k c x, βf k c = some x → β k c = some x) ∧
  (∀ k, k ∈ a.ds.map (·.2) ++ a.hs → (∀ cs, t k = .box cs → t1 k = .box cs) ∧ (∀ cs, t k = .hbox cs → t1 k = .hbox cs) ∧ (∀ n s cs, t k = .own n s cs → t1 k = .own n s cs) ∧ ∀ c, βf k c = β k c) ∧
  (refRW (res, outs, houts) = false ∨ ∀ k c x, (k, c) ∈ a.bos → β k c = some x → ∀ k' c', βf k' c' ≠ some x) := by
  unfold afterW at haft
  by_cases h0 : a.bos.isEmpty = true
  ·rw [if_pos h0] at haft
   have hnil : a.bos = [] := by simpa using h0
   exact ⟨t, β, haft, s, fun _ _ _ hx => hx, fun k _ => ⟨fun _ e => e, fun _ e => e, fun _ _ _ e => e, fun _ => rfl⟩, .inr fun k c x hm => by rw [hnil] at hm; simp at hm⟩
  ·rw [if_neg h0] at haft
   by_cases hr : refRW (res, outs, houts) = true
   ·rw [if_pos hr] at haft
    by_cases ho : a.bos.all (isOwnB t) = true
    ·rw [if_pos ho] at haft
     obtain ⟨βf, q1, q2, q3, q4⟩ := frzs_sr a.bos s
     rw [List.all_eq_true] at ho
     exact ⟨_, βf, haft, q1, q2, fun k hk => q4 k (fun b hb e => ok.bo b hb (e ▸ hk)), .inr fun k c x hm => q3 k c x hm (ho _ hm)⟩
    ·rw [if_neg ho] at haft; cases haft
   ·rw [if_neg hr] at haft
    exact ⟨t, β, haft, s, fun _ _ _ hx => hx, fun k _ => ⟨fun _ e => e, fun _ e => e, fun _ _ _ e => e, fun _ => rfl⟩, .inl (by simpa using hr)⟩
 obtain ⟨t1, βf, hback, sf, hsub, hsame, href⟩ := hfz
 clear haft
 let Mc : Nat → Prop := fun b => M b ∨ ((∃ k c, βf k c = some b ∧ k ∉ a.ds.map (·.2) ++ a.hs) ∧ ¬ ∃ k c, (k, c) ∈ a.bos ∧ β k c = some b)
 have bCat : ∀ i k, lk a.ds a.hs i = some k → bC β a.ds a.hs i = β k := by
  intro i k hi
  funext c
  simp only [bC, hi]
 have bCof : ∀ i c b, bC β a.ds a.hs i c = some b → ∃ k, lk a.ds a.hs i = some k ∧ β k c = some b := by
  intro i c b hb
  unfold bC at hb
  split at hb
  ·rename_i k hk; exact ⟨k, hk, hb⟩
  ·cases hb
 have hNc : ∀ b, NF Mc (bC β a.ds a.hs) b → NF M β b := by
  rintro b ((hm | ⟨⟨k, c, hk, _⟩, _⟩) | ⟨i, c, hi⟩)
  ·exact .inl hm
  ·exact .inr ⟨k, c, hsub _ _ _ hk⟩
  ·obtain ⟨k, _, hk⟩ := bCof i c b hi
   exact .inr ⟨k, c, hk⟩
 have hargs := ok.ok (bC β a.ds a.hs) (NF Mc (bC β a.ds a.hs)) hNc (fun i k hik c => by rw [bCat i k (lkds i k hik)]) (fun q k hq => by rw [bCat _ k (lkhs q k hq)]) (by
  intro k c b hm hβ hn
  rcases hn with (hm' | ⟨_, hnb⟩) | ⟨i, c', hi⟩
  ·exact (s.lt _ _ _ hβ).2 hm'
  ·exact hnb ⟨k, c, hm, hβ⟩
  ·obtain ⟨k', hk', hk2⟩ := bCof i c' b hi
   have := (s.inj _ _ _ _ _ hβ hk2).1
   subst this
   exact ok.bo _ hm (hks i k hk'))
 have sc : SR Mc (bC β a.ds a.hs) h (argTT a.avs hc) (argT argsA) := by
  refine ⟨fun i => ?_, ?_, ?_, ?_⟩
  ·unfold argTT
   rw [argTT'_at, if_pos (Nat.zero_le _), Nat.sub_zero]
   cases hav : a.avs[i]? with
   | some av => exact hargs i av hav
   | none =>
     simp only
     rw [hidT_at]
     split
     ·rename_i hle
      cases hcs : hc[i - hidB]? with
      | none => trivial
      | some cs =>
        have hlt : i - hidB < a.hs.length := by rw [← hcl]; exact (List.getElem?_eq_some_iff.1 hcs).1
        obtain ⟨k, hk⟩ : ∃ k, a.hs[i - hidB]? = some k := ⟨_, List.getElem?_eq_getElem hlt⟩
        have hbx := hcat _ k cs hk hcs
        have hlk : lk a.ds a.hs i = some k := by unfold lk; rw [if_neg (by omega)]; exact hk
        have := (boxC_tr (N := NF M β) (a := argT argsA i) hbx (s.tr k)).keep (N' := NF Mc (bC β a.ds a.hs)) (Keeps.less hNc) (fun _ _ _ => rfl)
        simp only [TR]
        rw [bCat i k hlk]
        exact this
     ·trivial
  ·intro i c i' c' b h1 h2
   obtain ⟨k, e1, e2⟩ := bCof i c b h1
   obtain ⟨k', e3, e4⟩ := bCof i' c' b h2
   obtain ⟨z1, z2⟩ := s.inj _ _ _ _ _ e2 e4
   subst z1
   exact ⟨lkinj i i' k e1 e3, z2⟩
  ·intro i c b h1
   obtain ⟨k, e1, e2⟩ := bCof i c b h1
   refine ⟨(s.lt _ _ _ e2).1, ?_⟩
   rintro (hm | ⟨⟨k', c', e3, e4⟩, _⟩)
   ·exact (s.lt _ _ _ e2).2 hm
   ·have := (s.inj _ _ _ _ _ e2 (hsub _ _ _ e3)).1
    subst this
    exact e4 (hks i k e1)
  ·rintro b (hm | ⟨⟨k, c, e1, _⟩, _⟩)
   ·exact s.mlt b hm
   ·exact (sf.lt _ _ _ e1).1
 obtain ⟨v', h', β', p, X, hca, houtl, fr, s', hpX, hpi, hX, hres, hclo⟩ := hsim _ _ _ _ _ _ hcall Mc (bC β a.ds a.hs) h argsA ok.len ok.le sc
 have outat : ∀ i av, outs[i]? = some av → TR β' h' (NF (fun b => Mc b ∨ X b) β') i (tvO av) (argT argsA i) := by
  intro i av hav
  have := s'.tr i
  unfold outTT at this
  rw [outTT'_at, if_pos (Nat.zero_le _), Nat.sub_zero, hav] at this
  exact this
 cases hbh : backHs houts a.hs t1 with
 | none => rw [hbh] at hback; cases hback
 | some t2 =>
 rw [hbh, Option.map_eq_some_iff] at hback
 obtain ⟨t3', hbk, hback⟩ := hback
 injection hback with e1 e2
 subst e1 e2
 obtain ⟨bh1, bh2⟩ := backHs_at hbh nd2
 obtain ⟨bk1, bk2⟩ := backs_at hbk nd1
 have notboth : ∀ k, k ∈ a.ds.map (·.2) → k ∉ a.hs := fun k h1 h2 => nd3 k h1 k h2 rfl
 have pin : ∀ i k, lk a.ds a.hs i = some k → β' i none = β k none := by
  intro i k hi
  by_cases hlt : i < hidB
  ·have hik : (i, k) ∈ a.ds := by unfold lk at hi; rw [if_pos hlt] at hi; exact lookA_mem hi
   obtain ⟨av, hav, hroot⟩ := ok.root i k hik
   have hin := hargs i av hav
   rw [show (bC β a.ds a.hs) = bC β a.ds a.hs from rfl] at hin
   obtain ⟨ao, vo, hao, hvo, _⟩ := bk1 i k hik
   have hout := outat i ao hao
   have hβ := bCat i k hi
   have inbox : ∀ cs, av = .box cs → ∃ b, β k none = some b ∧ argT argsA i = .pointer (some ⟨b, 0, none⟩) := by
    rintro cs rfl
    obtain ⟨b, ca, q1, q2, _⟩ := hin
    rw [hβ] at q1
    exact ⟨b, q1, q2⟩
   have inown : ∀ n s0 cs, av = .own n s0 cs → (β k none = none ∧ argT argsA i = .slice none 0 0) ∨ ∃ b, β k none = some b ∧ argT argsA i = .slice (some ⟨b, 0, none⟩) n s0 := by
    rintro n s0 cs rfl
    rcases hin with ⟨q1, _, _, q2⟩ | ⟨b, ca, q1, q2, _⟩
    ·rw [hβ] at q1; exact .inl ⟨q1, q2⟩
    ·rw [hβ] at q1; exact .inr ⟨b, q1, q2⟩
   cases ao with
   | v q => simp [backTV] at hvo
   | clo f caps => simp [backTV] at hvo
   | box cs' =>
     obtain ⟨b', ca', q1, q2, _⟩ := hout
     rcases hroot with ⟨cs, e, _⟩ | ⟨n, s0, cs, e, _⟩
     ·obtain ⟨b, g1, g2⟩ := inbox cs e
      rw [g2] at q2
      injection q2 with q2; injection q2 with q2; injection q2 with q2
      rw [q1, g1, q2]
     ·rcases inown n s0 cs e with ⟨_, g2⟩ | ⟨b, _, g2⟩ <;> rw [g2] at q2 <;> cases q2
   | own n' s1 cs' =>
     rcases hroot with ⟨cs, e, _⟩ | ⟨n, s0, cs, e, _⟩
     ·obtain ⟨b, g1, g2⟩ := inbox cs e
      rcases hout with ⟨_, _, _, q2⟩ | ⟨b', ca', _, q2, _⟩ <;> rw [g2] at q2 <;> cases q2
     ·rcases hout with ⟨q1, _, _, q2⟩ | ⟨b', ca', q1, q2, _⟩ <;> rcases inown n s0 cs e with ⟨g1, g2⟩ | ⟨b, g1, g2⟩ <;> rw [g2] at q2
      ·rw [q1, g1]
      ·cases q2
      ·cases q2
      ·injection q2 with q2; injection q2 with q2; injection q2 with q2
       rw [q1, g1, q2]
  ·have hq : a.hs[i - hidB]? = some k := by unfold lk at hi; rw [if_neg hlt] at hi; exact hi
   have hie : hidB + (i - hidB) = i := by omega
   obtain ⟨j, f, caps, x, c1, c2⟩ := ok.clo _ k hq
   rw [hie] at c2
   have hin := hargs j _ c1
   obtain ⟨as, q1, q2, q3⟩ := hin
   obtain ⟨f', caps', c3, c4⟩ := hclo j f caps c1
   obtain ⟨as', r1, r2, r3⟩ := outat j _ c3
   have hx1 : x < caps.length := (List.getElem?_eq_some_iff.1 c2).1
   have c5 := sameCaps_at c4 c2
   have hx2 : x < caps'.length := (List.getElem?_eq_some_iff.1 c5).1
   have q4 := q3 x hx1
   have r4 := r3 x hx2
   rw [List.getD_eq_getElem?_getD, c2] at q4
   rw [List.getD_eq_getElem?_getD, c5] at r4
   obtain ⟨b, g1, g2⟩ := q4
   obtain ⟨b', g3, g4⟩ := r4
   have hee : argsA.getD j Go.undef = argT argsA j := rfl
   rw [hee, r1] at q1
   have q1' := (Value.func.inj q1).2.2
   rw [q1', g2] at g4
   have g5 : b = b' := (Addr.mk.inj (Option.some.inj (Value.pointer.inj g4))).1
   rw [bCat i k hi] at g1
   rw [g3, g1, g5]
 obtain ⟨βn, hβn⟩ : ∃ βn, βn = newB a.ds a.hs β' βf := ⟨_, rfl⟩
 have bnl : ∀ i k, lk a.ds a.hs i = some k → βn k = β' i := by
  intro i k hi
  funext c
  have hex : ∃ i, lk a.ds a.hs i = some k := ⟨i, hi⟩
  rw [hβn]
  unfold newB
  rw [dif_pos hex, lkinj _ _ k (Classical.choose_spec hex) hi]
 have bno : ∀ k, k ∉ a.ds.map (·.2) ++ a.hs → βn k = βf k := by
  intro k hk
  funext c
  rw [hβn]
  unfold newB
  rw [dif_neg]
  rintro ⟨i, hi⟩
  exact hk (hks i k hi)
 have bnof : ∀ k c b, βn k c = some b → (∃ i, lk a.ds a.hs i = some k ∧ β' i c = some b) ∨ (k ∉ a.ds.map (·.2) ++ a.hs ∧ βf k c = some b) := by
  intro k c b hb
  by_cases hk : k ∈ a.ds.map (·.2) ++ a.hs
  ·obtain ⟨i, hi⟩ := lkof k hk
   rw [bnl i k hi] at hb
   exact .inl ⟨i, hi, hb⟩
  ·rw [bno k hk] at hb
   exact .inr ⟨hk, hb⟩
 have lentof : ∀ i c b, β' i c = some b → h.length ≤ b ∨ ∃ k c', k ∈ a.ds.map (·.2) ++ a.hs ∧ β k c' = some b := by
  intro i c b hb
  rcases fr.own i c b hb with h1 | ⟨i', c', h1⟩
  ·exact .inl h1
  ·obtain ⟨k, e1, e2⟩ := bCof i' c' b h1
   exact .inr ⟨k, c', hks _ _ e1, e2⟩
 have Xof : ∀ b, X b → h.length ≤ b ∨ ∃ k c', k ∈ a.ds.map (·.2) ++ a.hs ∧ β k c' = some b := by
  intro b hb
  rcases hX b hb with h1 | ⟨i', c', h1⟩
  ·exact .inl h1
  ·obtain ⟨k, e1, e2⟩ := bCof i' c' b h1
   exact .inr ⟨k, c', hks _ _ e1, e2⟩
 have notlent : ∀ k c b, k ∉ a.ds.map (·.2) ++ a.hs → βf k c = some b → ∀ k' c', k' ∈ a.ds.map (·.2) ++ a.hs → β k' c' ≠ some b := by
  intro k c b hk hb k' c' hk' hb'
  have := (s.inj _ _ _ _ _ (hsub _ _ _ hb) hb').1
  subst this
  exact hk hk'
 have hlt : ∀ k c b, βf k c = some b → b < h.length := fun k c b hb => (sf.lt _ _ _ hb).1
 have hkeep : Keeps h (NF M βf) h' (NF (fun b => M b ∨ X b) βn) := by
  intro b ro ca g1 g2
  have hbl : b < h.length := get_lt g2
  have nolent : ∀ k c, k ∈ a.ds.map (·.2) ++ a.hs → β k c ≠ some b := fun k c hk hb' => g1 (.inr ⟨k, c, by rw [(hsame k hk).2.2.2 c]; exact hb'⟩)
  refine ⟨?_, ?_⟩
  ·rintro ((hm | hx) | ⟨k, c, hk⟩)
   ·exact g1 (.inl hm)
   ·rcases Xof b hx with h1 | ⟨k, c, h1, h2⟩
    ·omega
    ·exact nolent k c h1 h2
   ·rcases bnof k c b hk with ⟨i, e1, e2⟩ | ⟨_, e2⟩
    ·rcases lentof i c b e2 with h1 | ⟨k', c', h1, h2⟩
     ·omega
     ·exact nolent k' c' h1 h2
    ·exact g1 (.inr ⟨k, c, e2⟩)
  ·rw [fr.same b hbl (fun i c hi => by
    obtain ⟨k, e1, e2⟩ := bCof i c b hi
    exact nolent k c (hks i k e1) e2)]
   exact g2
 have samef : ∀ k c b, k ∉ a.ds.map (·.2) ++ a.hs → βf k c = some b → h'[b]? = h[b]? := by
  intro k c b hk hb
  refine fr.same b (hlt k c b hb) fun i c' hi => ?_
  obtain ⟨k', e1, e2⟩ := bCof i c' b hi
  exact notlent k c b hk hb k' c' (hks i k' e1) e2
 have hNb : (refRW (res, outs, houts) = false) ∨ Keeps h' (NF (fun b => Mc b ∨ X b) β') h' (NF (fun b => M b ∨ X b) βn) := by
  rcases href with hr | hr
  ·exact .inl hr
  ·refine .inr (Keeps.less ?_)
   rintro b ((hm | hx) | ⟨k, c, hk⟩)
   ·exact .inl (.inl (.inl hm))
   ·exact .inl (.inr hx)
   ·rcases bnof k c b hk with ⟨i, e1, e2⟩ | ⟨e1, e2⟩
    ·exact .inr ⟨i, c, e2⟩
    ·refine .inl (.inl (.inr ⟨⟨k, c, e2, e1⟩, ?_⟩))
     rintro ⟨k', c', h1, h2⟩
     exact hr k' c' b h1 h2 k c e2
 have pinv : ∀ k, k ∈ a.ds.map (·.2) ++ a.hs → βn k none = βf k none := by
  intro k hk
  obtain ⟨i, hi⟩ := lkof k hk
  rw [bnl i k hi, pin i k hi, (hsame k hk).2.2.2 none]
 have snew : SR (fun b => M b ∨ X b) βn h' t3' tA := by
  refine ⟨fun i => ?_, ?_, ?_, ?_⟩
  ·by_cases hi : i ∈ a.ds.map (·.2) ++ a.hs
   ·obtain ⟨j, hj⟩ := lkof i hi
    have hbn := bnl j i hj
    have boxback : ∀ cs, (∃ av, (av = .box cs ∧ refA av = refCs cs)) → (refRW (res, outs, houts) = false → refCs cs = false) → TRr (β' j) h' (NF (fun b => Mc b ∨ X b) β') (.hbox cs) (tA i) → TR βn h' (NF (fun b => M b ∨ X b) βn) i (backH (t1 i) cs) (tA i) ∨ (∀ cs0, t1 i ≠ .box cs0 ∧ t1 i ≠ .hbox cs0) := by
     intro cs _ hrc hb
     have hb2 : TRr (β' j) h' (NF (fun b => M b ∨ X b) βn) (.hbox cs) (tA i) := by
      rcases hNb with hr | hk
      ·exact hbox_noRef (hrc hr) hb
      ·exact hb.keep hk (fun _ _ _ => rfl)
     cases ht : t1 i with
     | hbox cs0 =>
       left
       simp only [backH, TR]
       rw [hbn]; exact hb2
     | box cs0 =>
       left
       simp only [backH, TR]
       rw [hbn]
       obtain ⟨b, ca, q1, q2, q3, q4⟩ := hb2
       have htr := sf.tr i
       rw [ht] at htr
       obtain ⟨b0, ca0, r1, r2, _⟩ := htr
       have : b0 = b := by
        have e := pin j i hj
        rw [← (hsame i hi).2.2.2 none, r1, q1] at e
        injection e with e; exact e.symm
       subst this
       exact ⟨b0, ca, q1, r2, q2, q3, q4⟩
     | _ => right; intro cs0; simp
    rcases List.mem_append.1 hi with hd | hh
    ·obtain ⟨⟨j', k'⟩, hm, e⟩ := List.mem_map.1 hd
     simp only at e
     subst e
     have hjj : j' = j := lkinj _ _ _ (lkds _ _ hm) hj
     subst hjj
     obtain ⟨ao, vo, hao, hvo, ht3⟩ := bk1 j' k' hm
     have hout := outat j' ao hao
     rw [ht3]
     have t2k : Kd a.hs (t1 k') (t2 k') := bh2 k' (notboth k' hd)
     obtain ⟨av, hav, hroot⟩ := ok.root j' k' hm
     cases ao with
     | v q => simp [backTV] at hvo
     | clo f caps => simp [backTV] at hvo
     | box cs' =>
       simp only [backTV, Option.some.injEq] at hvo
       subst hvo
       have hh : TRr (β' j') h' (NF (fun b => Mc b ∨ X b) β') (.hbox cs') (tA k') := by
        obtain ⟨b, ca, q1, q2, q3, q4, q5⟩ := hout
        exact ⟨b, ca, q1, q3, q4, q5⟩
       have hbb := boxback cs' ⟨.box cs', rfl, rfl⟩ (fun hr => (noRefA hr).2.1 _ (List.mem_of_getElem? hao)) hh
       have hroot1 : (∃ cs0, t1 k' = .box cs0) ∨ (∃ cs0, t1 k' = .hbox cs0) ∨ ∃ n s0 cs0, av = .own n s0 cs0 := by
        rcases hroot with ⟨cs, _, hbx⟩ | ⟨n, s0, cs, e, _⟩
        ·unfold boxC at hbx
         split at hbx
         ·rename_i cs0 e
          exact .inl ⟨_, (hsame k' hi).1 _ e⟩
         ·rename_i cs0 e
          exact .inr (.inl ⟨_, (hsame k' hi).2.1 _ e⟩)
         ·cases hbx
        ·exact .inr (.inr ⟨n, s0, cs, e⟩)
       have ownbad : ¬ ∃ n s0 cs0, av = .own n s0 cs0 := by
        rintro ⟨n, s0, cs0, rfl⟩
        have hin := hargs j' _ hav
        obtain ⟨b, ca, q1, q2, _⟩ := hout
        have hee : argsA.getD j' Go.undef = argT argsA j' := rfl
        rcases hin with ⟨_, _, _, g2⟩ | ⟨_, _, _, g2, _⟩ <;> rw [hee, q2] at g2 <;> cases g2
       have e : t2 k' = t1 k' := by
        rcases hroot1 with ⟨cs0, e0⟩ | ⟨cs0, e0⟩ | e0
        ·exact t2k.root (by rw [e0]; rfl)
        ·exact t2k.root (by rw [e0]; rfl)
        ·exact absurd e0 ownbad
       rw [e]
       rcases hbb with q | q
       ·exact q
       ·rcases hroot1 with ⟨cs0, e0⟩ | ⟨cs0, e0⟩ | e0
        ·exact absurd e0 (q cs0).1
        ·exact absurd e0 (q cs0).2
        ·exact absurd e0 ownbad
     | own n' s1 cs' =>
       simp only [backTV] at hvo
       split at hvo
       ·rename_i n0 s00 cs0 ht2
        split at hvo
        ·rename_i hns
         injection hvo with hvo
         subst hvo
         obtain ⟨rfl, rfl⟩ := hns
         have hO : OwnAt h' (NF (fun b => M b ∨ X b) βn) (β' j' none) n' s1 cs' (argT argsA j') := by
          have hout' : OwnAt h' (NF (fun b => Mc b ∨ X b) β') (β' j' none) n' s1 cs' (argT argsA j') := hout
          rcases hNb with hr | hk
          ·have hnr : hasRefs cs' = false := (noRefA hr).2.1 _ (List.mem_of_getElem? hao)
           rcases hout' with hv | ⟨b, ca, h1, h2, h3, h4, h5⟩
           ·exact .inl hv
           ·exact .inr ⟨b, ca, h1, h2, h3, h4, frs_noRef cs' ca hnr h5⟩
          ·exact hout'.keep hk (fun _ _ => rfl)
         simp only [TR]
         rw [hbn]
         have ht1 : t1 k' = .own n' s1 cs0 := by
          rcases t2k with ⟨e9, _⟩ | ⟨e9, _⟩
          ·rw [e9] at ht2; cases ht2
          ·rw [← e9]; exact ht2
         have htr := sf.tr k'
         rw [ht1] at htr
         have hp := pin j' k' hj
         rw [← (hsame k' hi).2.2.2 none] at hp
         have hval : tA k' = argT argsA j' := by
          rcases htr with ⟨r1, _, _, r2⟩ | ⟨b, ca, r1, r2, _⟩ <;> rcases hO with ⟨q1, _, _, q2⟩ | ⟨b', ca', q1, q2, _⟩
          ·rw [r2, q2]
          ·rw [hp, r1] at q1; cases q1
          ·rw [hp, r1] at q1; cases q1
          ·rw [hp, r1] at q1; injection q1 with q1; rw [r2, q2, q1]
         rw [hval]
         exact hO
        ·cases hvo
       ·cases hvo
    ·obtain ⟨q, hq⟩ := List.getElem?_of_mem hh
     have hjj : hidB + q = j := lkinj _ _ _ (lkhs q i hq) hj
     subst hjj
     obtain ⟨cs', hcs', ht2⟩ := bh1 q i hq
     have ht3 : Kd (a.ds.map (·.2)) (t2 i) (t3' i) := bk2 i (fun hd => notboth i hd hh)
     have hout : TRr (β' (hidB + q)) h' (NF (fun b => Mc b ∨ X b) β') (.hbox cs') (tA i) := by
      have := s'.tr (hidB + q)
      unfold outTT at this
      rw [outTT'_at, if_pos (Nat.zero_le _), Nat.sub_zero] at this
      cases ho : outs[hidB + q]? with
      | none =>
        rw [ho] at this
        simp only at this
        rw [hidT_at, if_pos (by omega), Nat.add_sub_cancel_left, hcs'] at this
        exact this
      | some ao =>
        have h1 := (List.getElem?_eq_some_iff.1 ho).1
        have h2 := ok.le
        omega
     rcases ht3 with ⟨e, _⟩ | ⟨e, _⟩
     ·rw [e]; trivial
     ·rw [e, ht2]
      rcases boxback cs' ⟨.box cs', rfl, rfl⟩ (fun hr => (noRefA hr).2.2 _ (List.mem_of_getElem? hcs')) hout with z | z
      ·exact z
      ·exfalso
       have hlt : q < a.hs.length := (List.getElem?_eq_some_iff.1 hq).1
       obtain ⟨cs, hcs⟩ : ∃ cs, hc[q]? = some cs := ⟨_, List.getElem?_eq_getElem (by rw [hcl]; exact hlt)⟩
       have hbx := hcat q i cs hq hcs
       unfold boxC at hbx
       split at hbx
       ·rename_i cs0 e0
        exact (z cs0).1 ((hsame i hi).1 _ e0)
       ·rename_i cs0 e0
        exact (z cs0).2 ((hsame i hi).2.1 _ e0)
       ·cases hbx
   ·have hi1 : i ∉ a.ds.map (·.2) := fun q => hi (List.mem_append.2 (.inl q))
    have hi2 : i ∉ a.hs := fun q => hi (List.mem_append.2 (.inr q))
    rcases bk2 i hi1 with ⟨e, _⟩ | ⟨e, a1, a2⟩
    ·rw [e]; trivial
    rcases bh2 i hi2 with ⟨e', _⟩ | ⟨e', b1, b2⟩
    ·rw [e, e']; trivial
    rw [e'] at a1 a2
    rw [e, e']
    have htr := sf.tr i
    have hbi := bno i hi
    have keyc : ∀ k c, (∀ c', c = some c' → k ∉ a.ds.map (·.2) ++ a.hs) → βn k c = βf k c := by
     intro k c hc
     by_cases hk : k ∈ a.ds.map (·.2) ++ a.hs
     ·cases c with
      | none => exact pinv k hk
      | some c => exact absurd hk (hc c rfl)
     ·rw [bno k hk]
    generalize t1 i = u at *
    cases u with
    | undef => trivial
    | skip => exact htr
    | val q => exact FR.keep htr hkeep
    | pf cs off => exact TR.keep (v := .pf cs off) (β := βf) (i := i) htr hkeep (fun c b hb => samef i c b hi hb)
    | ref k c off =>
      obtain ⟨b, g1, g2⟩ := htr
      refine ⟨b, ?_, g2⟩
      rw [keyc k c (fun c' hc hk => by
       subst hc
       rcases List.mem_append.1 hk with hk | hk
       ·exact a1 _ _ _ rfl hk
       ·exact b1 _ _ _ rfl hk)]
      exact g1
    | slc k c off n s0 =>
      have hkc : βn k c = βf k c := keyc k c (fun c' hc hk => by
       subst hc
       rcases List.mem_append.1 hk with hk | hk
       ·exact a2 _ _ _ _ _ rfl hk
       ·exact b2 _ _ _ _ _ rfl hk)
      rcases htr with ⟨g0, g1⟩ | ⟨b, g1, g2⟩
      ·exact .inl ⟨by rw [hkc]; exact g0, g1⟩
      ·exact .inr ⟨b, by rw [hkc]; exact g1, g2⟩
    | own n s0 cs =>
      simp only [TR] at htr ⊢
      rw [hbi]
      exact htr.keep hkeep (fun c b hb => samef i c b hi hb)
    | box cs =>
      simp only [TR] at htr ⊢
      rw [hbi]
      exact htr.keep hkeep (fun c b hb => samef i c b hi hb)
    | tup cs =>
      simp only [TR] at htr ⊢
      rw [hbi]
      exact htr.keep hkeep (fun c b hb => samef i c b hi hb)
    | hbox cs =>
      simp only [TR] at htr ⊢
      rw [hbi]
      exact htr.keep hkeep (fun c b hb => samef i c b hi hb)
    | clo f caps =>
      obtain ⟨as, g1, g2, g3⟩ := htr
      refine ⟨as, g1, g2, fun j hj => ?_⟩
      have := g3 j hj
      cases hcj : caps.getD j (.inl 0) with
      | inr q => rw [hcj] at this; exact FR.keep this hkeep
      | inl k =>
        rw [hcj] at this
        obtain ⟨b, z1, z2⟩ := this
        exact ⟨b, by rw [keyc k none (by simp)]; exact z1, z2⟩
  ·intro k c k' c' b h1 h2
   rcases bnof k c b h1 with ⟨i, e1, e2⟩ | ⟨e1, e2⟩ <;> rcases bnof k' c' b h2 with ⟨i', d1, d2⟩ | ⟨d1, d2⟩
   ·obtain ⟨z1, z2⟩ := s'.inj _ _ _ _ _ e2 d2
    subst z1
    rw [e1] at d1
    injection d1 with d1
    exact ⟨d1, z2⟩
   ·exfalso
    rcases lentof i c b e2 with z | ⟨k2, c2, z1, z2⟩
    ·have := hlt _ _ _ d2; omega
    ·exact notlent _ _ b d1 d2 k2 c2 z1 z2
   ·exfalso
    rcases lentof i' c' b d2 with z | ⟨k2, c2, z1, z2⟩
    ·have := hlt _ _ _ e2; omega
    ·exact notlent _ _ b e1 e2 k2 c2 z1 z2
   ·exact sf.inj _ _ _ _ _ e2 d2
  ·intro k c b hb
   rcases bnof k c b hb with ⟨i, e1, e2⟩ | ⟨e1, e2⟩
   ·have := s'.lt _ _ _ e2
    refine ⟨this.1, ?_⟩
    rintro (hm | hx)
    ·exact this.2 (.inl (.inl hm))
    ·exact this.2 (.inr hx)
   ·have := sf.lt _ _ _ e2
    refine ⟨Nat.lt_of_lt_of_le this.1 fr.len, ?_⟩
    rintro (hm | hx)
    ·exact this.2 hm
    ·rcases Xof b hx with z | ⟨k2, c2, z1, z2⟩
     ·omega
     ·exact notlent _ _ b e1 e2 k2 c2 z1 z2
  ·rintro b (hm | hx)
   ·exact Nat.lt_of_lt_of_le (s.mlt b hm) fr.len
   ·exact s'.mlt b (.inr hx)
 have frn : Fr β h βn h' := by
  refine ⟨fr.len, fun b hb hn => fr.same b hb fun i c hi => ?_, fun k c b hb => ?_⟩
  ·obtain ⟨k, e1, e2⟩ := bCof i c b hi
   exact hn k c e2
  ·rcases bnof k c b hb with ⟨i, e1, e2⟩ | ⟨e1, e2⟩
   ·rcases lentof i c b e2 with z | ⟨k2, c2, z1, z2⟩
    ·exact .inl z
    ·exact .inr ⟨k2, c2, z2⟩
   ·exact .inr ⟨k, c, hsub _ _ _ e2⟩
 have hresn : ResR p h' (NF (fun b => M b ∨ X b) βn) (resTV res) v' := by
  rcases hNb with hr | hk
  ·exact resR_noRef (noRefA hr).1 hres
  ·exact hres.keep hk
 have hXn : ∀ b, X b → h.length ≤ b ∨ ∃ k c, β k c = some b := by
  intro b hb
  rcases Xof b hb with z | ⟨k2, c2, z1, z2⟩
  ·exact .inl z
  ·exact .inr ⟨k2, c2, z2⟩
 unfold ResR at hresn
 split at hresn
 ·rename_i hr
  refine Sound.root hca frn snew p (fun c b hb => ⟨(hpX c b hb).1, fun hm => (hpX c b hb).2 (.inl hm)⟩) hpi hXn hr hresn
 ·rename_i hr
  obtain ⟨hr1, hr2⟩ := hresn
  refine Sound.plain hca frn snew.weak (by simpa using hr) ?_
  have hkk : Keeps h' (NF (fun b => M b ∨ X b) βn) h' (NF M βn) := Keeps.less (by
   rintro b (hm | hb)
   ·exact .inl (.inl hm)
   ·exact .inr hb)
  split at hr2
  ·rename_i q e
   rw [e] at hr1 ⊢
   exact FR.keep hr1 hkk
  ·rename_i e
   rw [e]; trivial
  ·exact hr2.elim
end
end Go.Wb
namespace Go.Wb
open Go
section
variable {M : Nat → Prop} {β : Bt} {h : Heap} {t : TT} {tA : T}
theorem arg1_root {io : Bool} {hn : Nat} {x : Operand} {av : AV} {k : Nat} {hs : List Nat} {bo : Option (Nat × Option Nat)} (hx : arg1 io hn t x = some (av, some k, hs, bo)) :
 (∃ cs, av = .box cs ∧ boxC t k = some cs) ∨ ∃ n s cs, av = .own n s cs ∧ t k = .own n s cs := by
 unfold arg1 at hx
 split at hx
 ·injection hx with hx; injection hx with e1 hx; injection hx with e2 hx; cases e2
 ·injection hx with hx; injection hx with e1 hx; injection hx with e2 hx; cases e2
 ·split at hx
  ·split at hx
   ·rename_i cs hk
    injection hx with hx; injection hx with e1 hx; injection hx with e2 hx; injection hx with e3 e4
    injection e2 with e2; subst e1 e2
    exact .inl ⟨cs, rfl, by unfold boxC; rw [hk]⟩
   ·cases hx
  ·cases hx
  ·split at hx
   ·split at hx
    ·split at hx
     ·rename_i n' s2 cs hk _
      split at hx
      ·rename_i hc
       obtain ⟨rfl, rfl⟩ := hc
       injection hx with hx; injection hx with e1 hx; injection hx with e2 hx; injection hx with e3 e4
       injection e2 with e2; subst e1 e2
       exact .inr ⟨_, _, _, rfl, hk⟩
      ·cases hx
     ·cases hx
    ·rw [Option.map_eq_some_iff] at hx
     obtain ⟨y, _, hx⟩ := hx
     injection hx with e1 hx; injection hx with e2 hx; cases e2
   ·cases hx
theorem renum_roots : ∀ (caps : List (Nat ⊕ PV)) (hn q k : Nat), (rootsOf caps)[q]? = some k → ∃ x : Nat, (renum hn caps)[x]? = some (Sum.inl (hidB + hn + q))
 | [], hn, q, k, h => by simp [rootsOf] at h
 | .inl k0 :: l, hn, 0, k, h => ⟨0, by simp [renum]⟩
 | .inl k0 :: l, hn, q + 1, k, h => by
   obtain ⟨x, hx⟩ := renum_roots l (hn + 1) q k (by simpa [rootsOf] using h)
   exact ⟨x + 1, by simp only [renum, List.getElem?_cons_succ, hx]; congr 2; omega⟩
 | .inr p0 :: l, hn, q, k, h => by
   obtain ⟨x, hx⟩ := renum_roots l hn q k (by simpa [rootsOf] using h)
   exact ⟨x + 1, by simpa [renum] using hx⟩
theorem arg1_hs {io : Bool} {hn : Nat} {x : Operand} {av : AV} {d : Option Nat} {hs : List Nat} {bo : Option (Nat × Option Nat)} (hx : arg1 io hn t x = some (av, d, hs, bo)) {q k : Nat} (hq : hs[q]? = some k) :
 ∃ (f : Nat) (caps : List (Nat ⊕ PV)) (y : Nat), av = .clo f caps ∧ caps[y]? = some (.inl (hidB + hn + q)) := by
 unfold arg1 at hx
 split at hx
 ·rename_i f caps he
  injection hx with hx; injection hx with e1 hx; injection hx with e2 hx; injection hx with e3 e4
  subst e1 e3
  obtain ⟨y, hy⟩ := renum_roots caps hn q k hq
  exact ⟨f, _, y, rfl, hy⟩
 ·injection hx with hx; injection hx with e1 hx; injection hx with e2 hx; injection hx with e3 e4
  subst e3; simp at hq
 ·split at hx
  ·split at hx
   ·injection hx with hx; injection hx with e1 hx; injection hx with e2 hx; injection hx with e3 e4
    subst e3; simp at hq
   ·cases hx
  ·cases hx
  ·split at hx
   ·split at hx
    ·split at hx
     ·split at hx
      ·injection hx with hx; injection hx with e1 hx; injection hx with e2 hx; injection hx with e3 e4
       subst e3; simp at hq
      ·cases hx
     ·cases hx
    ·rw [Option.map_eq_some_iff] at hx
     obtain ⟨y, _, hx⟩ := hx
     injection hx with e1 hx; injection hx with e2 hx; injection hx with e3 e4
     subst e3; simp at hq
   ·cases hx
theorem args_root : ∀ (args : List Operand) (io : List Nat) (j hn : Nat) (a : Args), argsW io t j hn args = some a →
 (∀ i k, (i, k) ∈ a.ds → ∃ av, a.avs[i - j]? = some av ∧ ((∃ cs, av = .box cs ∧ boxC t k = some cs) ∨ ∃ n s cs, av = .own n s cs ∧ t k = .own n s cs)) ∧
 (∀ (q k : Nat), a.hs[q]? = some k → ∃ (i f : Nat) (caps : List (Nat ⊕ PV)) (x : Nat), a.avs[i]? = some (AV.clo f caps) ∧ caps[x]? = some (Sum.inl (hidB + hn + q)))
 | [], io, j, hn, a, hx => by
   simp only [argsW] at hx; injection hx with hx; subst hx
   simp
 | x :: l, io, j, hn, a, hx => by
   have hge := (ds_ge (x :: l) io j hn a hx).1
   simp only [argsW] at hx
   split at hx
   ·cases hx
   ·rename_i av d hs bo h1
    split at hx
    ·cases hx
    ·rename_i r h2
     injection hx with hx
     subst hx
     obtain ⟨i1, i2⟩ := args_root l io (j + 1) (hn + hs.length) r h2
     have hge2 := (ds_ge l io (j + 1) (hn + hs.length) r h2).1
     constructor
     ·intro i k hik
      cases d with
      | none =>
        simp only at hik
        obtain ⟨av', q1, q2⟩ := i1 i k hik
        have := hge2 i k hik
        refine ⟨av', ?_, q2⟩
        simp only
        rw [show i - j = (i - (j + 1)) + 1 from by omega, List.getElem?_cons_succ]
        exact q1
      | some k0 =>
        simp only at hik
        rcases List.mem_cons.1 hik with e | hik
        ·injection e with e1 e2
         subst e1 e2
         exact ⟨av, by simp, arg1_root h1⟩
        ·obtain ⟨av', q1, q2⟩ := i1 i k hik
         have := hge2 i k hik
         refine ⟨av', ?_, q2⟩
         simp only
         rw [show i - j = (i - (j + 1)) + 1 from by omega, List.getElem?_cons_succ]
         exact q1
     ·intro q k hq
      simp only at hq
      rcases Nat.lt_or_ge q hs.length with hlt | hge'
      ·rw [List.getElem?_append_left hlt] at hq
       obtain ⟨f, caps, y, e1, e2⟩ := arg1_hs h1 hq
       subst e1
       exact ⟨0, f, caps, y, rfl, e2⟩
      ·rw [List.getElem?_append_right hge'] at hq
       obtain ⟨i, f, caps, y, e1, e2⟩ := i2 _ k hq
       refine ⟨i + 1, f, caps, y, by simpa using e1, ?_⟩
       rw [e2]
       congr 2
       omega
theorem args_len : ∀ (args : List Operand) (io : List Nat) (j hn : Nat) (a : Args), argsW io t j hn args = some a → a.avs.length = args.length
 | [], io, j, hn, a, hx => by
   simp only [argsW] at hx; injection hx with hx; subst hx
   rfl
 | x :: l, io, j, hn, a, hx => by
   simp only [argsW] at hx
   split at hx
   ·cases hx
   ·split at hx
    ·cases hx
    ·rename_i r h2
     injection hx with hx
     subst hx
     simp [args_len l io (j + 1) _ r h2]
theorem args_done (s : SR M β h t tA) {io : List Nat} {args : List Operand} {a : Args} (hx : argsW io t 0 0 args = some a) (hle : a.avs.length ≤ hidB) (hnd : nodupN (a.ds.map (·.2) ++ a.hs) = true) (hbo : a.bos.all (fun b => !(a.ds.map (·.2) ++ a.hs).contains b.1) = true) :
 ArgsOk M β h t a (args.map (Ev tA)) := by
 obtain ⟨g1, g2⟩ := ds_ge args io 0 0 a hx
 obtain ⟨r1, r2⟩ := args_root args io 0 0 a hx
 have hl := args_len args io 0 0 a hx
 refine ⟨by simp [hl], hle, ?_, fun i k hik => ⟨g2 i k hik, by have := g1 i k hik; omega⟩, fun i k hik => by simpa using r1 i k hik, fun q k hq => by simpa using r2 q k hq, nodupN_ok hnd, ?_⟩
 ·intro βc Nc h1 h2 h3 h4 q av hq
  have := (args_ok s (βf := β) (fun _ _ _ hx => hx) h1 args 0 0 a hx h2 (by simpa using h3) h4).2 q av hq
  simpa using this
 ·intro b hb
  rw [List.all_eq_true] at hbo
  have := hbo b hb
  simpa using this
end
end Go.Wb
namespace Go.Wb
open Go
section
variable {M : Nat → Prop} {β : Bt} {h : Heap} {t t1 : TT} {tA : T} {v : TV} {cw : CallFW} {EA : Env}
theorem callW_sound (hsim : CallSim cw (callA EA)) (s : SR M β h t tA) {f : String} {io : List Nat} {args : List Operand} (hx : callW cw f io args t = some (v, t1)) : Sound M β h tA (callA EA f (args.map (Ev tA)) h) v t1 := by
 unfold callW at hx
 split at hx
 ·cases hx
 ·rename_i a ha
  split at hx
  ·rename_i hc
   simp only [Bool.and_eq_true, decide_eq_true_eq] at hc
   split at hx
   ·cases hx
   ·rename_i hb hbx
    split at hx
    ·rename_i r hr
     exact after_sound hsim s (args_done s ha hc.1.1 hc.1.2 hc.2) hbx hr hx
    ·cases hx
  ·cases hx
theorem capArgs_at : ∀ {caps : List (Nat ⊕ PV)} {j : Nat} {ca : List AV} {cd : List (Nat × Nat)}, capArgs t j caps = some (ca, cd) → ca.length = caps.length ∧
 (∀ (x : Nat) av, ca[x]? = some av → (∃ k cs, caps[x]? = some (Sum.inl k) ∧ av = .box cs ∧ boxC t k = some cs ∧ (j + x, k) ∈ cd) ∨ ∃ p, caps[x]? = some (Sum.inr p) ∧ av = .v p) ∧
 (∀ i k, (i, k) ∈ cd → j ≤ i ∧ i < j + caps.length ∧ lookA cd i = some k ∧ ∃ cs, ca[i - j]? = some (.box cs) ∧ boxC t k = some cs)
 | [], j, ca, cd, hx => by
   simp only [capArgs] at hx; injection hx with hx; injection hx with e1 e2; subst e1 e2
   simp
 | .inl k :: l, j, ca, cd, hx => by
   simp only [capArgs] at hx
   split at hx
   ·rename_i cs a d h1 h2
    injection hx with hx; injection hx with e1 e2; subst e1 e2
    obtain ⟨i1, i2, i3⟩ := capArgs_at h2
    refine ⟨by simp [i1], fun x av hav => ?_, fun i k' hm => ?_⟩
    ·cases x with
     | zero =>
       simp only [List.getElem?_cons_zero, Option.some.injEq] at hav
       subst hav
       exact .inl ⟨k, cs, by simp, rfl, h1, by simp⟩
     | succ x =>
       rcases i2 x av (by simpa using hav) with ⟨k', cs', q1, q2, q3, q4⟩ | ⟨p, q1, q2⟩
       ·exact .inl ⟨k', cs', by simpa using q1, q2, q3, List.mem_cons.2 (.inr (by rw [show j + (x + 1) = j + 1 + x from by omega]; exact q4))⟩
       ·exact .inr ⟨p, by simpa using q1, q2⟩
    ·rcases List.mem_cons.1 hm with e | hm
     ·injection e with e1 e2; subst e1 e2
      exact ⟨Nat.le_refl _, by simp only [List.length_cons]; omega, by simp [lookA], cs, by simp, h1⟩
     ·obtain ⟨q1, q2, q3, cs', q4, q5⟩ := i3 i k' hm
      refine ⟨by omega, by simp only [List.length_cons]; omega, ?_, cs', ?_, q5⟩
      ·simp only [lookA]
       rw [if_neg (by omega)]
       exact q3
      ·rw [show i - j = (i - (j + 1)) + 1 from by omega, List.getElem?_cons_succ]
       exact q4
   ·cases hx
 | .inr p :: l, j, ca, cd, hx => by
   simp only [capArgs] at hx
   split at hx
   ·rename_i a d h2
    injection hx with hx; injection hx with e1 e2; subst e1 e2
    obtain ⟨i1, i2, i3⟩ := capArgs_at h2
    refine ⟨by simp [i1], fun x av hav => ?_, fun i k' hm => ?_⟩
    ·cases x with
     | zero =>
       simp only [List.getElem?_cons_zero, Option.some.injEq] at hav
       subst hav
       exact .inr ⟨p, by simp, rfl⟩
     | succ x =>
       rcases i2 x av (by simpa using hav) with ⟨k', cs', q1, q2, q3, q4⟩ | ⟨p, q1, q2⟩
       ·exact .inl ⟨k', cs', by simpa using q1, q2, q3, by rw [show j + (x + 1) = j + 1 + x from by omega]; exact q4⟩
       ·exact .inr ⟨p, by simpa using q1, q2⟩
    ·obtain ⟨q1, q2, q3, cs', q4, q5⟩ := i3 i k' hm
     refine ⟨by omega, by simp only [List.length_cons]; omega, q3, cs', ?_, q5⟩
     rw [show i - j = (i - (j + 1)) + 1 from by omega, List.getElem?_cons_succ]
     exact q4
   ·cases hx
theorem lookA_app1 : ∀ {l l' : List (Nat × Nat)} {i k : Nat}, lookA l i = some k → lookA (l ++ l') i = some k
 | [], l', i, k, hx => by simp [lookA] at hx
 | (j, s) :: l, l', i, k, hx => by
   simp only [lookA, List.cons_append] at hx ⊢
   split
   ·rename_i e; rw [if_pos e] at hx; exact hx
   ·rename_i e; rw [if_neg e] at hx; exact lookA_app1 hx
theorem lookA_app2 : ∀ {l l' : List (Nat × Nat)} {i : Nat}, (∀ k, (i, k) ∉ l) → lookA (l ++ l') i = lookA l' i
 | [], l', i, _ => rfl
 | (j, s) :: l, l', i, hx => by
   simp only [lookA, List.cons_append]
   rw [if_neg (fun e => hx s (by rw [e]; simp))]
   exact lookA_app2 fun k hk => hx k (List.mem_cons.2 (.inr hk))
theorem dynW_sound (hsim : CallSim cw (callA EA)) {tbl : List (Nat × String)} (hE : EA "@dyn" = some (.dyn tbl)) (s : SR M β h t tA) {io : List Nat} {x : Operand} {args : List Operand} (hx : dynW tbl cw io x args t = some (v, t1)) :
 Sound M β h tA (callA EA "@dyn" ((x :: args).map (Ev tA)) h) v t1 := by
 unfold dynW at hx
 split at hx
 ·cases hx
 ·rename_i f caps hfc
  have hval : ∃ as : Array Value, Ev tA x = .func (.func f) #[] as ∧ caps.length = as.size ∧ ∀ j, j < caps.length → CapR β h (NF M β) (caps.getD j (.inl 0)) (as.toList.getD j Go.undef) := by
   split at hfc
   ·rename_i f' caps' he
    injection hfc with hfc; injection hfc with e1 e2; subst e1 e2
    cases x with
    | tmp i => have := s.tr i; simp only [EvT] at he; rw [he] at this; exact this
    | const v => simp only [EvT] at he; split at he <;> cases he
    | global g => cases he
    | func f => cases he
   ·rename_i f' fs cs he
    injection hfc with hfc; injection hfc with e1 e2; subst e1 e2
    obtain ⟨e, hs⟩ := ev_sc s he
    simp only [scalN, scalar, isNilS, Bool.or_false, Bool.and_eq_true, beq_iff_eq] at hs
    have z1 : fs = #[] := Array.eq_empty_of_size_eq_zero hs.1
    have z2 : cs = #[] := Array.eq_empty_of_size_eq_zero hs.2
    exact ⟨#[], by rw [e, z1, z2], rfl, by simp⟩
   ·cases hfc
  obtain ⟨as, hfv, hcl, hcap⟩ := hval
  split at hx
  ·cases hx
  ·rename_i e hfind
   split at hx
   ·cases hx
   ·rename_i a0 ha0
    split at hx
    ·cases hx
    ·rename_i ca cd hca
     simp only at hx
     split at hx
     ·rename_i hc
      simp only [Bool.and_eq_true, decide_eq_true_eq] at hc
      split at hx
      ·cases hx
      ·rename_i hb hbx
       split at hx
       ·rename_i r hr
        obtain ⟨c1, c2, c3⟩ := capArgs_at hca
        obtain ⟨g1, g2⟩ := ds_ge args io 0 0 a0 ha0
        obtain ⟨r1, r2⟩ := args_root args io 0 0 a0 ha0
        have hl := args_len args io 0 0 a0 ha0
        have hnod := nodupN_ok hc.1.2
        have hbo : ∀ b, b ∈ a0.bos → b.1 ∉ (a0.ds ++ cd).map (·.2) ++ a0.hs := by
         intro b hb
         have := hc.2
         rw [List.all_eq_true] at this
         simpa using this b hb
        have ok : ArgsOk M β h t ⟨a0.avs ++ ca, a0.ds ++ cd, a0.hs, a0.bos⟩ (args.map (Ev tA) ++ as.toList) := by
         refine ⟨by simp [hl, c1, hcl], hc.1.1, ?_, ?_, ?_, ?_, hnod, hbo⟩
         ·intro βc Nc h1 h2 h3 h4 q av hq
          rcases Nat.lt_or_ge q a0.avs.length with hlt | hge
          ·simp only at hq
           rw [List.getElem?_append_left hlt] at hq
           have := (args_ok s (βf := β) (fun _ _ _ hx => hx) h1 args 0 0 a0 ha0 (fun i k hik => h2 i k (List.mem_append.2 (.inl hik))) (by simpa using h3) h4).2 q av hq
           rw [List.getD_eq_getElem?_getD, List.getElem?_append_left (by rw [List.length_map]; omega)]
           simpa [List.getD_eq_getElem?_getD] using this
          ·simp only at hq
           rw [List.getElem?_append_right hge] at hq
           have hqx : q - a0.avs.length < caps.length := by rw [← c1]; exact (List.getElem?_eq_some_iff.1 hq).1
           have hcq := hcap _ hqx
           rw [List.getD_eq_getElem?_getD, List.getElem?_append_right (by rw [List.length_map]; omega), List.length_map, ← hl, ← List.getD_eq_getElem?_getD]
           rcases c2 _ av hq with ⟨k, cs, q1, rfl, q3, q4⟩ | ⟨p, q1, rfl⟩
           ·rw [List.getD_eq_getElem?_getD (l := caps), q1] at hcq
            obtain ⟨b, z1, z2⟩ := hcq
            have hβ : βc q = β k := by
             funext c
             exact h2 q k (List.mem_append.2 (.inr (by rw [show a0.avs.length + (q - a0.avs.length) = q from by omega] at q4; exact q4))) c
            have hbt := (boxC_tr (a := Go.undef) q3 (s.tr k)).keep (N' := Nc) (Keeps.less h1) (fun _ _ _ => rfl)
            obtain ⟨b', ca', y1, y2, y3, y4⟩ := hbt
            rw [z1] at y1
            injection y1 with y1; subst y1
            show TRr (βc q) h Nc (.box cs) _
            rw [hβ]
            exact ⟨b, ca', z1, z2, y2, y3, y4⟩
           ·rw [List.getD_eq_getElem?_getD (l := caps), q1] at hcq
            exact FR.keep hcq (Keeps.less h1)
         ·intro i k hik
          simp only [List.length_append]
          rcases List.mem_append.1 hik with hik | hik
          ·have := g1 i k hik
           exact ⟨lookA_app1 (g2 i k hik), by omega⟩
          ·obtain ⟨q1, q2, q3, _⟩ := c3 i k hik
           refine ⟨?_, by omega⟩
           rw [lookA_app2 fun k' hk' => by have := g1 i k' hk'; omega]
           exact q3
         ·intro i k hik
          simp only
          rcases List.mem_append.1 hik with hik | hik
          ·have := g1 i k hik
           obtain ⟨av, q1, q2⟩ := r1 i k hik
           refine ⟨av, ?_, q2⟩
           rw [List.getElem?_append_left (by omega)]
           simpa using q1
          ·obtain ⟨q1, q2, q3, cs, q4, q5⟩ := c3 i k hik
           refine ⟨.box cs, ?_, .inl ⟨cs, rfl, q5⟩⟩
           rw [List.getElem?_append_right q1]
           exact q4
         ·intro q k hq
          obtain ⟨i, f', caps', y, q1, q2⟩ := r2 q k hq
          refine ⟨i, f', caps', y, ?_, by simpa using q2⟩
          simp only
          rw [List.getElem?_append_left (List.getElem?_eq_some_iff.1 q1).1]
          exact q1
        have hres := after_sound hsim s ok hbx hr hx
        rw [List.map_cons, hfv, callA_dyn hE hfind]
        simpa using hres
       ·cases hx
     ·cases hx
theorem evalW_sound (hsim : CallSim cw (callA EA)) {tbl : List (Nat × String)} (hE : EA "@dyn" = some (.dyn tbl)) (s : SR M β h t tA) {o : WOper} (hx : evalW tbl cw o t = some (v, t1)) : Sound M β h tA (evalA (callA EA) o.op tA h) v t1 := by
 unfold evalW at hx
 split at hx
 ·rename_i f args hop
  rw [hop]
  simp only [evalA]
  split at hx
  ·rename_i hf
   subst hf
   split at hx
   ·exact dynW_sound hsim hE s hx
   ·cases hx
  ·exact callW_sound hsim s hx
 ·rename_i hne
  have : Sound M β h tA (aOp o.op tA h) v t1 := by
   split at hx
   ·exact bldW_sound s hx
   ·exact op_sound' s hx
  cases hop : o.op with
  | call f args => exact absurd hop (hne f args)
  | _ => rw [hop] at this; exact this
theorem wantedW_ok (s : SR M β h t tA) {g : Option (Tmp × Bool)} {w : Bool} (hx : wantedW g t = some w) : wantedA g tA = w := by
 unfold wantedW at hx
 unfold wantedA
 split at hx
 ·injection hx
 ·rename_i d w'
  have htr := s.tr d
  split at hx
  ·rename_i b hb
   rw [hb] at htr
   injection hx with hx
   have hd : tA d = .bool b := by
    generalize tA d = u at htr
    cases htr
    rfl
   simp only [hd]
   exact hx
  ·rename_i hb
   rw [hb] at htr
   injection hx with hx
   have hd : tA d = Go.undef := htr
   simp only [hd]
   exact hx
  ·cases hx
theorem stepW_sound (hsim : CallSim cw (callA EA)) {tbl : List (Nat × String)} (hE : EA "@dyn" = some (.dyn tbl)) (s : SR M β h t tA) {o : WOper} (hx : stepW tbl cw o t = some t1) :
 ∃ tA' h' β', stepA (callA EA) o.a tA h = some (tA', h') ∧ Fr β h β' h' ∧ SR M β' h' t1 tA' := by
 unfold stepW at hx
 split at hx
 ·rename_i hw
  have hwa := wantedW_ok s hw
  split at hx
  ·rename_i v t' hev
   injection hx with hx; subst hx
   obtain ⟨a, h', ha, hd⟩ := evalW_sound hsim hE s hev
   obtain ⟨β', fr, s'⟩ := hd o.dst
   refine ⟨_, h', β', ?_, fr, s'⟩
   simp only [stepA, WOper.a, hwa, if_true, ha]
  ·cases hx
 ·rename_i hw
  have hwa := wantedW_ok s hw
  injection hx with hx; subst hx
  refine ⟨_, h, β, by simp only [stepA, WOper.a, hwa]; rfl, .refl, ?_⟩
  cases hd : o.dst with
  | none => exact s
  | some d => exact s.upd (v := .skip) rfl
 ·cases hx
theorem execW_sound (hsim : CallSim cw (callA EA)) {tbl : List (Nat × String)} (hE : EA "@dyn" = some (.dyn tbl)) : ∀ {l : List WOper} {β : Bt} {h : Heap} {t t1 : TT} {tA : T}, SR M β h t tA → execW tbl cw l t = some t1 →
 ∃ tA' h' β', execOps (callA EA) (l.map WOper.a) tA h = some (tA', h') ∧ Fr β h β' h' ∧ SR M β' h' t1 tA'
 | [], β, h, t, t1, tA, s, hx => by
   simp only [execW] at hx; injection hx with hx; subst hx
   exact ⟨tA, h, β, rfl, .refl, s⟩
 | o :: l, β, h, t, t1, tA, s, hx => by
   simp only [execW] at hx
   split at hx
   ·rename_i t' hs
    obtain ⟨tA1, h1, β1, q1, q2, q3⟩ := stepW_sound hsim hE s hs
    obtain ⟨tA2, h2, β2, r1, r2, r3⟩ := execW_sound hsim hE q3 hx
    exact ⟨tA2, h2, β2, by simp only [List.map_cons, execOps, q1]; exact r1, q2.trans r2, r3⟩
   ·cases hx
end
end Go.Wb

/- A region that draws its order: the induction over what has been done. -/
import Derived.Test.YtihcipgcknjkbaaWbDraw
namespace Go.Wb
open Go
section
variable {P : Program} {nm : Names} {nt : Nat} {call : CallF} {ops : Array Oper} {Q : Exit → Act → World → Prop}

theorem compileOps_get : ∀ {os : List Oper} {l : List AOper}, compileOps P nm nt ops os = some l → l.length = os.length ∧ ∀ (j : Nat) (o : Oper), os[j]? = some o → ∃ ao, l[j]? = some ao ∧ compileOper P nm nt ops o = some ao
  | [], l, h => by
    simp only [compileOps] at h
    injection h with h
    subst h
    exact ⟨rfl, fun j o ho => by simp at ho⟩
  | o :: os, l, h => by
    simp only [compileOps] at h
    split at h
    · rename_i ao r h1 h2
      injection h with h
      subst h
      obtain ⟨q1, q2⟩ := compileOps_get h2
      refine ⟨by simp [q1], fun j o' ho => ?_⟩
      cases j with
      | zero =>
        simp only [List.getElem?_cons_zero] at ho
        injection ho with ho
        subst ho
        exact ⟨ao, rfl, h1⟩
      | succ j => exact q2 j o' (by simpa using ho)
    · cases h

theorem countP_lt {p q : Nat → Bool} (hpq : ∀ i, q i = true → p i = true) {j : Nat} : ∀ {l : List Nat}, j ∈ l → p j = true → q j = false → l.countP q < l.countP p
  | [], h, _, _ => by cases h
  | i :: l, h, hp, hq => by
    have hle : l.countP q ≤ l.countP p := List.countP_mono_left (fun x _ hx => hpq x hx)
    by_cases hij : i = j
    · subst hij
      simp only [List.countP_cons, hp, hq, if_true, Bool.false_eq_true, if_false]
      omega
    · have hm : j ∈ l := by
        cases h with
        | head => exact absurd rfl hij
        | tail _ h => exact h
      have ih := countP_lt hpq hm hp hq
      simp only [List.countP_cons]
      by_cases hqi : q i = true
      · rw [if_pos hqi, if_pos (hpq i hqi)]; omega
      · rw [if_neg hqi]; split <;> omega

theorem checkPairs_mem {G : List Heap} {L : List LoadRec} : ∀ {ps : List (Nat × Nat)}, checkPairs G L ps → ∀ p ∈ ps, sameAt G L p
  | [], _, p, hp => by cases hp
  | q :: ps, h, p, hp => by
    cases hp with
    | head => exact h.1
    | tail _ hp => exact checkPairs_mem h.2 p hp

theorem read_dep {x : AOper} {d : Tmp} {y : AOper} (hd : x.dst = some d) (hr : d ∈ readsOf y) : depends x y = true := by
  unfold depends
  have : (readsOf y).contains d = true := by simpa using hr
  simp only [hd, this, Bool.true_or]

theorem read_dep2 {x : AOper} {d : Tmp} {y : AOper} (hd : y.dst = some d) (hr : d ∈ readsOf x) : depends x y = true := by
  unfold depends
  have : (readsOf x).contains d = true := by simpa using hr
  simp only [hd, this, Bool.or_true, Bool.true_or]

theorem write_dep {x y : AOper} {d : Tmp} (hx : x.dst = some d) (hy : y.dst = some d) : depends x y = true := by
  unfold depends
  simp only [hx, hy, beq_self_eq_true, Bool.or_true, Bool.true_or]

theorem eff_dep {x y : AOper} (hx : isE x.op = true) (hy : isE y.op = true) : depends x y = true := by
  unfold depends
  simp only [hx, hy, Bool.and_self, Bool.or_true, Bool.true_or]

theorem effr_dep {x y : AOper} (hx : isE x.op = true) (hy : isR y.op = true) : depends x y = true := by
  unfold depends
  simp only [hx, hy, Bool.and_self, Bool.or_true, Bool.true_or]

theorem reff_dep {x y : AOper} (hx : isR x.op = true) (hy : isE y.op = true) : depends x y = true := by
  unfold depends
  simp only [hx, hy, Bool.and_self, Bool.or_true]

theorem depsOk_spec {l : List AOper} {m : List Nat} (h : depsOk l m = true) {i j : Nat} {x y : AOper} (hij : i < j) (hi : l[i]? = some x) (hj : l[j]? = some y) (hd : depends x y = true) : anc m j i = true := by
  have hjl : j < l.length := by
    rcases Nat.lt_or_ge j l.length with h1 | h1
    · exact h1
    · simp [List.getElem?_eq_none h1] at hj
  have h1 := List.all_eq_true.1 h j (List.mem_range.2 hjl)
  have h2 := List.all_eq_true.1 h1 i (List.mem_range.2 hij)
  simp only [hi, hj, hd, Bool.not_true, Bool.false_or] at h2
  exact h2

theorem edgesBack_spec {l : List Oper} (h : edgesBack l = true) {j : Nat} {o : Oper} (hj : l[j]? = some o) : ∀ e ∈ o.after.toList, Region.binds .any e = true → e.on < j := by
  have hjl : j < l.length := by
    rcases Nat.lt_or_ge j l.length with h1 | h1
    · exact h1
    · simp [List.getElem?_eq_none h1] at hj
  have h1 := List.all_eq_true.1 h j (List.mem_range.2 hjl)
  simp only [hj] at h1
  intro e he hb
  have := List.all_eq_true.1 h1 e he
  simpa [hb] using this

theorem pairs_spec {l : List AOper} {m : List Nat} {i s : Nat} {o : AOper} (hi : l[i]? = some o) (hl : isLoad o.op = true) (hs : s ≤ cnt l l.length) (hne : s ≠ cnt l i) (hok : stageOk l m i s = true) : (cntL l i, s) ∈ pairsOf l m := by
  have hil : i < l.length := by
    rcases Nat.lt_or_ge i l.length with h1 | h1
    · exact h1
    · simp [List.getElem?_eq_none h1] at hi
  unfold pairsOf
  rw [List.mem_flatMap]
  refine ⟨i, List.mem_range.2 hil, ?_⟩
  simp only [hi, hl, if_true]
  rw [List.mem_map]
  refine ⟨s, ?_, rfl⟩
  rw [List.mem_filter]
  exact ⟨List.mem_range.2 (by omega), by simp [hne, hok]⟩

theorem guard_congr {g : Option (Tmp × Bool)} {t t' : T} (h : ∀ d w, g = some (d, w) → t d = t' d) : wantedA g t = wantedA g t' := by
  cases g with
  | none => rfl
  | some x =>
    obtain ⟨d, w⟩ := x
    simp only [wantedA]
    rw [h d w rfl]

theorem drawn_sound {l : List AOper} {pairs : List (Nat × Nat)} {id : Nat} {t t' : T} {h h' : Heap} {ι0 : Inj} {a0 : Act} {w0 : World} (hm : P.follows .mixedOrders = true) (hcomp : compileOps P nm nt ops ops.toList = some l) (hdo : drawOk ops.toList l = some pairs)
    (hcalls : CallsOk P nm call) (hs0 : SRel nt ι0 h t a0 w0) (hx : execDrawn call l pairs t h = some (t', h'))
    (hQ : ∀ ι' a' w', SRel nt ι' h' t' a' w' → Step ι0 h w0 ι' h' w' → Q .normal a' w') : (Code.region id ops true).wp P Q a0 w0 := by
  obtain ⟨hll, hget⟩ := compileOps_get hcomp
  have hn : l.length = ops.size := by rw [hll]; simp
  unfold drawOk at hdo
  split at hdo
  case isFalse => cases hdo
  rename_i hcond
  rw [Bool.and_eq_true] at hcond
  obtain ⟨hback, hdeps⟩ := hcond
  injection hdo with hdo
  subst hdo
  unfold execDrawn at hx
  split at hx
  case h_2 => cases hx
  rename_i t1 h1 G L hlog
  split at hx
  case isFalse => cases hx
  rename_i hcheck
  injection hx with hx
  injection hx with e1 e2
  subst e1 e2
  obtain ⟨ts, hs, vs, tr, hts, hhs⟩ := trace_of hlog
  let m := ancs ops.toList []
  -- what is invariant
  let Inv : Array Bool → Act → World → Prop := fun listed a w => listed.size = ops.size ∧
    (∀ j o, ops[j]? = some o → listed.getD j false = true → ∀ e ∈ o.after.toList, Region.binds .any e = true → listed.getD e.on false = true) ∧
    ∃ ι s H, s ≤ cnt l l.length ∧ (h :: G)[s]? = some H ∧ (∀ e o, l[e]? = some o → isE o.op = true → (listed.getD e false = true ↔ cnt l e < s)) ∧
      SRel nt ι H (tD l vs t (fun k => listed.getD k false) l.length) a w ∧ Step ι0 h w0 ι H w
  have closed : ∀ (listed : Array Bool), (∀ j o, ops[j]? = some o → listed.getD j false = true → ∀ e ∈ o.after.toList, Region.binds .any e = true → listed.getD e.on false = true) →
      (∀ e i, listed.getD e false = true → anc m e i = true → listed.getD i false = true) ∧
      (∀ k o, ops[k]? = some o → (∀ e ∈ o.after.toList, Region.binds .any e = true → listed.getD e.on false = true) → ∀ i, anc m k i = true → listed.getD i false = true) := by
    intro listed hcl
    obtain ⟨q1, q2⟩ := ancs_closed (fun k => listed.getD k false) ops.toList [] (fun e i _ hi => by simp at hi) (fun k o ho hd => hcl k o (by simpa using ho) (by simpa using hd))
    exact ⟨fun e i he hi => q1 e i he hi, fun k o ho he i hi => q2 k o (by simpa using ho) he i (by simpa [anc] using hi)⟩
  -- at the end
  have done : ∀ listed a w, Inv listed a w → (∀ j, j < ops.size → listed.getD j false = true) → Q .normal a w := by
    rintro listed a w ⟨hsz, hcl, ι, s, H, hsm, hH, hE, hsr, hst⟩ hall
    have hseq : s = cnt l l.length := by
      rcases Nat.lt_or_ge s (cnt l l.length) with hlt | hge
      · exfalso
        obtain ⟨e, o, g1, g2, g3, g4⟩ := cnt_prev (l := l) (Nat.le_refl _) (by omega)
        have := (hE e o g2 g3).1 (hall e (by omega))
        omega
      · omega
    have hHe : H = hs l.length := by
      have := tr.stages l.length (Nat.le_refl _)
      rw [← hseq, hH] at this
      injection this
    have htt : tD l vs t (fun k => listed.getD k false) l.length = t1 := by
      rw [← hts]
      have h2 := tD_prefix tr l.length l.length (Nat.le_refl _)
      rw [Nat.min_self] at h2
      rw [← h2]
      funext i
      refine tD_agree _ fun k o hk _ _ => ?_
      simp only [hall k (by omega), decide_eq_true hk]
    rw [htt, hHe, hhs] at hsr
    rw [hHe, hhs] at hst
    exact hQ ι a w hsr hst
  -- the induction
  have main : ∀ fuel listed a w, Inv listed a w → (List.range ops.size).countP (fun i => !listed.getD i false) ≤ fuel → wpAny P .any ops Q fuel listed a w := by
    intro fuel
    induction fuel with
    | zero =>
      intro listed a w hinv hc
      have hall : ∀ j, j < ops.size → listed.getD j false = true := by
        intro j hj
        have := List.countP_eq_zero.1 (Nat.le_zero.1 hc) j (List.mem_range.2 hj)
        simpa using this
      refine ⟨?_, done listed a w hinv hall⟩
      apply List.eq_nil_iff_forall_not_mem.2
      intro j hj
      rw [mem_ready] at hj
      obtain ⟨h0, o, ho, _⟩ := hj
      have hjs : j < ops.size := (Array.getElem?_eq_some_iff.1 ho).1
      have := hall j hjs
      have hjl : j < listed.size := by rw [hinv.1]; exact hjs
      simp [hjl] at h0 this
      rw [h0] at this
      cases this
    | succ fuel ih =>
      intro listed a w hinv hc
      constructor
      · intro hnil
        refine done listed a w hinv fun j => ?_
        induction j using Nat.strongRecOn with
        | _ j ihj =>
          intro hj
          rcases Bool.eq_false_or_eq_true (listed.getD j false) with ht | hf
          · exact ht
          · exfalso
            have ho : ops[j]? = some ops[j] := Array.getElem?_eq_getElem hj
            have hmem : j ∈ Region.ready .any ops listed := by
              rw [mem_ready]
              refine ⟨?_, _, ho, fun e he hb => ?_⟩
              · have hjl : j < listed.size := by rw [hinv.1]; exact hj
                simp [hjl] at hf ⊢
                exact hf
              · have hlt := edgesBack_spec hback (j := j) (o := ops[j]) (by simp [hj]) e (by simpa using he) hb
                exact ihj e.on hlt (by omega)
            rw [hnil] at hmem
            cases hmem
      · intro j hj
        rw [mem_ready] at hj
        obtain ⟨h0, o, ho, hpre⟩ := hj
        have hjs : j < ops.size := (Array.getElem?_eq_some_iff.1 ho).1
        obtain ⟨hsz, hcl, ι, s, H, hsm, hH, hE, hsr, hst⟩ := hinv
        have hjl : j < listed.size := by rw [hsz]; exact hjs
        have hjf : listed.getD j false = false := by
          simp [hjl] at h0 ⊢
          exact h0
        obtain ⟨ao, hao, hco⟩ := hget j o (by simpa using ho)
        obtain ⟨c1, c2⟩ := closed listed hcl
        have hancs : ∀ i, anc m j i = true → listed.getD i false = true := c2 j o ho (fun e he hb => hpre e (by simpa using he) hb)
        have hlater : ∀ e, anc m e j = true → listed.getD e false = false := fun e he => by
          rcases Bool.eq_false_or_eq_true (listed.getD e false) with ht | hf
          · have := c1 e j ht he
            rw [hjf] at this; cases this
          · exact hf
        -- what the operation reads is what it read in the order of the text
        have hreads : ∀ d, d ∈ readsOf ao → tD l vs t (fun k => listed.getD k false) l.length d = ts j d := by
          intro d hd
          have h2 := tD_prefix tr j l.length (Nat.le_refl _)
          rw [show min l.length j = j by omega] at h2
          rw [← h2]
          refine tD_agree _ fun k x hk hkx hkd => ?_
          rcases Nat.lt_trichotomy k j with hlt | heq | hgt
          · rw [decide_eq_true hlt]
            exact hancs k (depsOk_spec hdeps hlt hkx hao (read_dep hkd hd))
          · subst heq
            rw [hjf]; simp
          · rw [show decide (k < j) = false by simp; omega]
            exact hlater k (depsOk_spec hdeps hgt hao hkx (read_dep2 hkd hd))
        have hguard : wantedA ao.guard (tD l vs t (fun k => listed.getD k false) l.length) = wantedA ao.guard (ts j) := by
          refine guard_congr fun d wv hg => hreads d ?_
          simp [readsOf, hg]
        have hev : ∀ K, evalA call ao.op (tD l vs t (fun k => listed.getD k false) l.length) K = evalA call ao.op (ts j) K := fun K => by
          refine evalA_congr fun x hxm => ev_congr fun i hi => hreads i ?_
          subst hi
          simp only [readsOf, List.mem_append]
          exact .inl (mem_tmpsOf hxm)
        -- the stage
        have hlow : (isE ao.op = true ∨ isR ao.op = true) → cnt l j ≤ s := by
          intro her
          rcases Nat.eq_zero_or_pos (cnt l j) with hz | hz
          · omega
          · obtain ⟨e, x, g1, g2, g3, g4⟩ := cnt_prev (l := l) (show j ≤ l.length by omega) hz
            have hdep : depends x ao = true := by
              rcases her with her | her
              · exact eff_dep g3 her
              · exact effr_dep g3 her
            have := (hE e x g2 g3).1 (hancs e (depsOk_spec hdeps g1 g2 hao hdep))
            omega
        have hhigh : (isE ao.op = true ∨ isR ao.op = true) → s ≤ cnt l j := by
          intro her
          rcases Nat.lt_or_ge (cnt l j) s with hlt | hge
          · exfalso
            obtain ⟨e, x, g1, g2, g3, g4, g5⟩ := cnt_next (l := l) (j := j) (n := l.length) (by omega) (Nat.le_refl _) (by omega)
            have hle := (hE e x g3 g4).2 (by omega)
            rcases Nat.eq_or_lt_of_le g1 with heq | hgt
            · subst heq; rw [hjf] at hle; cases hle
            · have hdep : depends ao x = true := by
                rcases her with her | her
                · exact eff_dep her g4
                · exact reff_dep her g4
              have := hlater e (depsOk_spec hdeps hgt hao g3 hdep)
              rw [this] at hle; cases hle
          · exact hge
        have hstage : s = cnt l j → H = hs j := fun he => by
          have := tr.stages j (by omega)
          rw [← he, hH] at this
          injection this
        -- the abstract step at this stage
        obtain ⟨htn, hcase⟩ := tr.step j ao hao
        have hstep : ∃ H', stepA call ao (tD l vs t (fun k => listed.getD k false) l.length) H = some (put (tD l vs t (fun k => listed.getD k false) l.length) ao.dst (vs j), H') ∧
            ((isE ao.op = true ∧ s = cnt l j ∧ H' = hs (j + 1)) ∨ (isE ao.op = false ∧ H' = H)) := by
          rcases hcase with ⟨hwt, hval⟩ | ⟨hwf, hvu, hhe⟩
          · rcases Bool.eq_false_or_eq_true (isE ao.op) with hee | hee
            · have hsj : s = cnt l j := Nat.le_antisymm (hhigh (.inl hee)) (hlow (.inl hee))
              refine ⟨hs (j + 1), ?_, .inl ⟨hee, hsj, rfl⟩⟩
              unfold stepA
              rw [hguard, if_pos hwt, hev, hstage hsj, hval]
            · have hval2 : evalA call ao.op (ts j) H = some (vs j, H) := by
                have hsame := heap_same hee hval
                rcases Bool.eq_false_or_eq_true (isR ao.op) with hrr | hrr
                · have hsj : s = cnt l j := Nat.le_antisymm (hhigh (.inr hrr)) (hlow (.inr hrr))
                  rw [hstage hsj, hval, hsame]
                · rcases Bool.eq_false_or_eq_true (isLoad ao.op) with hld | hld
                  · by_cases hsj : s = cnt l j
                    · rw [hstage hsj, hval, hsame]
                    · have hpair : (cntL l j, s) ∈ pairsOf l m := by
                        refine pairs_spec hao hld hsm hsj ?_
                        unfold stageOk
                        rw [List.all_eq_true]
                        intro e he
                        cases hle : l[e]? with
                        | none => rfl
                        | some x =>
                          simp only
                          rcases Bool.eq_false_or_eq_true (isE x.op) with hxe | hxe
                          · simp only [hxe, Bool.not_true, Bool.false_or, Bool.and_eq_true]
                            constructor
                            · rcases Bool.eq_false_or_eq_true (anc m j e) with ha | ha
                              · have := (hE e x hle hxe).1 (hancs e ha)
                                simp [this]
                              · simp [ha]
                            · rcases Bool.eq_false_or_eq_true (anc m e j) with ha | ha
                              · have hf := hlater e ha
                                have : ¬ cnt l e < s := fun hlt => by
                                  have := (hE e x hle hxe).2 hlt
                                  rw [hf] at this; cases this
                                simp [show s ≤ cnt l e by omega]
                              · simp [ha]
                          · simp [hxe]
                      have hsat := checkPairs_mem hcheck _ hpair
                      obtain ⟨r, hr1, hr2⟩ := tr.loads j ao hao hld
                      unfold sameAt at hsat
                      simp only [hr1, hH] at hsat
                      cases hop : ao.op <;> rw [hop] at hld <;> first | (cases hld; done) | skip
                      rename_i n x
                      rw [hop] at hval
                      simp only [evalA, aOp, Option.map_eq_some_iff] at hval
                      obtain ⟨u, hu, hux⟩ := hval
                      injection hux with e1 e2
                      have hlr : loadRec ao (ts j) (hs j) = [some (n, Ev (ts j) x, u)] := by
                        unfold loadRec
                        rw [hop]
                        simp only [hwt, if_true, hu]
                      rw [hlr] at hr2
                      injection hr2 with hr2
                      rw [hr2] at hsat
                      simp only at hsat
                      simp only [evalA, aOp, hsat, Option.map_some, e1]
                  · exact (pure_any hee hrr hld hval).2
              refine ⟨H, ?_, .inr ⟨hee, rfl⟩⟩
              unfold stepA
              rw [hguard, if_pos hwt, hev, hval2]
          · rcases Bool.eq_false_or_eq_true (isE ao.op) with hee | hee
            · have hsj : s = cnt l j := Nat.le_antisymm (hhigh (.inl hee)) (hlow (.inl hee))
              refine ⟨hs (j + 1), ?_, .inl ⟨hee, hsj, rfl⟩⟩
              unfold stepA
              rw [hguard, hwf, hvu, hhe, ← hstage hsj]
              rfl
            · refine ⟨H, ?_, .inr ⟨hee, rfl⟩⟩
              unfold stepA
              rw [hguard, hwf, hvu]
              rfl
        obtain ⟨H', hsa, hkind⟩ := hstep
        -- the temporaries behind it
        have hD : ∀ k, (listed.setIfInBounds j true).getD k false = (listed.getD k false || k == j) := by
          intro k
          by_cases hk : k = j
          · subst hk
            simp [hjl]
          · have : (k == j) = false := by simpa using hk
            rw [this, Bool.or_false]
            exact getD_set_ne false (Ne.symm hk)
        have htd : tD l vs t (fun k => (listed.setIfInBounds j true).getD k false) l.length = put (tD l vs t (fun k => listed.getD k false) l.length) ao.dst (vs j) := by
          rcases tD_insert (vs := vs) (t := t) (D := fun k => listed.getD k false) (D' := fun k => (listed.setIfInBounds j true).getD k false) hao hD l.length (by omega) (fun k x hjk hk hkx hdk i hi hxi => by
              have := hlater k (depsOk_spec hdeps hjk hao hkx (write_dep hi hxi))
              rw [this] at hdk; cases hdk) with hh | hh
          · exact hh
          · simp only [hjf] at hh; cases hh
        have hinv' : ∀ ι' a' w', SRel nt ι' H' (put (tD l vs t (fun k => listed.getD k false) l.length) ao.dst (vs j)) a' w' → Step ι H w ι' H' w' → Inv (listed.setIfInBounds j true) a' w' := by
          intro ι' a' w' hsr' hst'
          refine ⟨by simp [hsz], ?_, ι', ?_⟩
          · intro k ok hok hk e he hb
            rw [hD] at hk ⊢
            by_cases hkj : k = j
            · subst hkj
              rw [ho] at hok
              injection hok with hok
              subst hok
              rw [hpre e (by simpa using he) hb, Bool.true_or]
            · have : (k == j) = false := by simpa using hkj
              rw [this, Bool.or_false] at hk
              rw [hcl k ok hok hk e he hb, Bool.true_or]
          · rcases hkind with ⟨hee, hsj, hH'⟩ | ⟨hee, hH'⟩
            · have hc1 := cnt_succ hao
              rw [if_pos hee] at hc1
              refine ⟨s + 1, H', ?_, ?_, ?_, by rw [htd]; exact hsr', hst.trans hst'⟩
              · have := cnt_mono (l := l) (show j + 1 ≤ l.length by omega) (Nat.le_refl _)
                omega
              · have := tr.stages (j + 1) (by omega)
                rw [hc1, ← hsj] at this
                rw [this, hH']
              · intro e x hex hxe
                rw [hD]
                by_cases hej : e = j
                · subst hej
                  simp
                  omega
                · have hb : (e == j) = false := by simpa using hej
                  rw [hb, Bool.or_false, hE e x hex hxe]
                  constructor
                  · intro; omega
                  · intro hlt
                    rcases Nat.lt_or_ge (cnt l e) s with h3 | h3
                    · exact h3
                    · exfalso
                      have hes : cnt l e = cnt l j := by omega
                      rcases Nat.lt_trichotomy e j with h4 | h4 | h4
                      · have h5 := cnt_succ hex
                        rw [if_pos hxe] at h5
                        have := cnt_mono (l := l) (show e + 1 ≤ j by omega) (by omega)
                        omega
                      · exact hej h4
                      · have hel : e < l.length := by
                          rcases Nat.lt_or_ge e l.length with h6 | h6
                          · exact h6
                          · simp [List.getElem?_eq_none h6] at hex
                        have := cnt_mono (l := l) (show j + 1 ≤ e by omega) (by omega)
                        omega
            · subst hH'
              refine ⟨s, H', hsm, hH, ?_, by rw [htd]; exact hsr', hst.trans hst'⟩
              intro e x hex hxe
              rw [hD]
              by_cases hej : e = j
              · subst hej
                rw [hao] at hex
                injection hex with hex
                subst hex
                rw [hee] at hxe; cases hxe
              · have hb : (e == j) = false := by simpa using hej
                rw [hb, Bool.or_false]
                exact hE e x hex hxe
        have hcount : (List.range ops.size).countP (fun i => !(listed.setIfInBounds j true).getD i false) ≤ fuel := by
          have := countP_lt (p := fun i => !listed.getD i false) (q := fun i => !(listed.setIfInBounds j true).getD i false) (j := j) (fun i hi => by
              rw [hD] at hi
              simp only [Bool.not_or, Bool.and_eq_true] at hi
              exact hi.1) (l := List.range ops.size) (List.mem_range.2 hjs) (by simp only [hjf]; rfl) (by rw [hD]; simp)
          omega
        obtain ⟨s1, s2⟩ := oper_sound (P := P) (nm := nm) (nt := nt) (Q := Q) hcalls hsr hco hsa
        unfold wpOp
        rw [ho]
        simp only
        split
        · rename_i hw
          left
          refine Oper.wp_mono ?_ (s1 hw)
          rintro a' w' ⟨ι', g1, g2⟩
          exact ih _ a' w' (hinv' ι' a' w' g1 g2) hcount
        · rename_i hw
          obtain ⟨g1, g2⟩ := s2 (by simpa using hw)
          refine ih _ _ w (hinv' ι _ w g1 ?_) hcount
          rw [g2]
          exact .refl hsr.rel
  refine wp_region_any hm (main ops.size _ a0 _ ?_ ?_)
  · have hz : ∀ k, (Array.replicate ops.size false).getD k false = false := fun k => by rw [Array.getD_eq_getD_getElem?, Array.getElem?_replicate]; split <;> rfl
    refine ⟨by simp, ?_, ι0, 0, h, Nat.zero_le _, rfl, ?_, ?_, Step.drawn hs0.rel _⟩
    · intro j o _ hj
      rw [hz] at hj
      cases hj
    · intro e o _ _
      rw [hz]
      simp
    · have : tD l vs t (fun k => (Array.replicate ops.size false).getD k false) l.length = t := by
        have h2 := tD_prefix tr 0 l.length (Nat.le_refl _)
        rw [Nat.min_zero, tr.t0] at h2
        refine Eq.trans ?_ h2
        funext i
        refine tD_agree _ fun k o _ _ _ => ?_
        rw [hz]
        simp
      rw [this]
      exact ⟨hs0.rel.drawn _, hs0.tmps, hs0.defers, hs0.size⟩
  · have := List.countP_le_length (p := fun i => !(Array.replicate ops.size false).getD i false) (l := List.range ops.size)
    simpa using this

end
end Go.Wb

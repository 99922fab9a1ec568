import Derived.Test.YtlbekhmgpfbgnaaWbA4
import Derived.Test.YtlbekhmgpfbgnaaWbA3
import Derived.Laws.BitsLemmas
import Derived.Laws.Bits64b
set_option linter.all false
namespace Go.Wb
open Go
section
variable {M : Nat → Prop} {β : Bt} {h : Heap} {t : TT} {tA : T} {cw : CallFW} {EA : Env}
theorem callW_keep (hsim : CallSim cw (callA EA)) (s : SR M β h t tA) {f : String} {io : List Nat} {args : List Operand} {a : Args} (ha : argsW io t 0 0 args = some a) (hds : a.ds = []) (hhs : a.hs = []) (hle : a.avs.length ≤ hidB) {r : RW} (hr : cw f a.avs [] = some r) :
 ∃ v h', callA EA f (args.map (Ev tA)) h = some (v, h') ∧ h.length ≤ h'.length ∧ ∀ b, b < h.length → h'[b]? = h[b]? := by
 have ok := args_done s ha hle (by rw [hds, hhs]; rfl) (by rw [hds, hhs]; simp)
 let Mc : Nat → Prop := fun b => NF M β b ∧ ¬ ∃ k c, (k, c) ∈ a.bos ∧ β k c = some b
 let βc : Bt := fun _ _ => none
 have hNc : ∀ b, NF Mc βc b → NF M β b := by
  rintro b (⟨h1, _⟩ | ⟨_, _, hc⟩)
  ·exact h1
  ·cases hc
 have hargs := ok.ok βc (NF Mc βc) hNc (by rw [hds]; simp) (by rw [hhs]; simp) (by
  rintro k c b hm hβ (⟨_, hn⟩ | ⟨_, _, hc⟩)
  ·exact hn ⟨k, c, hm, hβ⟩
  ·cases hc)
 have sc : SR Mc βc h (argTT a.avs []) (argT (args.map (Ev tA))) := by
  refine ⟨fun i => ?_, fun _ _ _ _ _ h1 => (by cases h1), fun _ _ _ h1 => (by cases h1), ?_⟩
  ·unfold argTT
   rw [argTT'_at, if_pos (Nat.zero_le _), Nat.sub_zero]
   cases hav : a.avs[i]? with
   | some av => exact hargs i av hav
   | none =>
     simp only
     rw [hidT_at]
     split
     ·simp only [List.getElem?_nil]; trivial
     ·trivial
  ·rintro b ⟨hm | ⟨k, c, e1⟩, _⟩
   ·exact s.mlt b hm
   ·exact (s.lt _ _ _ e1).1
 obtain ⟨res, outs, houts⟩ := r
 obtain ⟨v', h', β', p, X, hca, _, fr, _⟩ := hsim _ _ _ _ _ _ hr Mc βc h (args.map (Ev tA)) ok.len ok.le sc
 exact ⟨v', h', hca, fr.len, fun b hb => fr.same b hb (fun k c hc => by cases hc)⟩
theorem readV_keep {h0 h1 : Heap} (hk : ∀ b, b < h0.length → h1[b]? = h0[b]?) {n : Option Nat} {a v : Value} (hx : readV h0 n a = some v) : readV h1 n a = some v := by
 have key : ∀ b x, h0[b]? = some x → h1[b]? = some x := fun b x hb => by rw [hk b (List.getElem?_eq_some_iff.1 hb).1]; exact hb
 unfold readV at hx ⊢
 split at hx
 ·unfold read1 at hx ⊢
  split at hx
  ·rename_i hb
   rw [key _ _ hb]; exact hx
  ·cases hx
 ·rw [Option.map_eq_some_iff] at hx ⊢
  obtain ⟨cs, hcs, hv⟩ := hx
  refine ⟨cs, ?_, hv⟩
  unfold readN at hcs ⊢
  split at hcs
  ·rename_i hb
   rw [key _ _ hb]; exact hcs
  ·cases hcs
 ·cases hx
theorem oldW_sr {β0 : Bt} {h0 h1 : Heap} {to : TT} {tA' : T} (s0 : SR M β0 h0 to tA) (hk : ∀ b, b < h0.length → h[b]? = h0[b]?) {o : WOper} {w : Bool} (hw : wantedW o.guard t = some w) (hwa : wantedA o.guard tA = w)
 (hst : stepA (callA EA) o.a tA h = some (tA', h1)) : ∃ β', SR M β' h0 (oldW o t to) tA' := by
 cases w with
 | false =>
   simp only [stepA, WOper.a, hwa] at hst
   injection hst with hst; injection hst with e1 e2
   subst e1
   refine ⟨β0, ?_⟩
   simp only [oldW, hw]
   cases hd : o.dst with
   | none => exact s0
   | some d => exact s0.upd (v := .skip) rfl
 | true =>
   simp only [stepA, WOper.a, hwa, if_true] at hst
   split at hst
   ·rename_i a h' hev
    injection hst with hst; injection hst with e1 e2
    subst e1
    have hun : ∃ β', SR M β' h0 (putT to o.dst .undef) (put tA o.dst a) := by
     refine ⟨β0, ?_⟩
     cases hd : o.dst with
     | none => exact s0
     | some d => exact s0.upd (v := .undef) trivial
    simp only [oldW, hw]
    split
    ·exact hun
    ·rename_i hER
     rw [Bool.or_eq_true, not_or] at hER
     obtain ⟨hE, hR⟩ := hER
     have hE : isE o.op = false := by simpa using hE
     have hR : isR o.op = false := by simpa using hR
     split
     ·rename_i v to1 hev0
      have hS : Sound M β0 h0 tA (aOp o.op tA h0) v to1 := by
       split at hev0
       ·exact bldW_sound s0 hev0
       ·exact op_sound' s0 hev0
      obtain ⟨a0, h0', ha0, hd⟩ := hS
      obtain ⟨β', _, s'⟩ := hd o.dst
      have hev' : evalA (callA EA) o.op tA h0 = aOp o.op tA h0 := by
       cases hop : o.op with
       | call f args => rw [hop] at hE; cases hE
       | _ => rfl
      have : a0 = a ∧ h0' = h0 := by
       cases hL : isLoad o.op with
       | false =>
         obtain ⟨_, q⟩ := pure_any (h2 := h0) hE hR hL hev
         rw [hev', ha0] at q
         injection q with q; injection q with q1 q2
         exact ⟨q1, q2⟩
       | true =>
         cases hop : o.op with
         | load n x =>
           rw [hop] at ha0 hev
           simp only [evalA, aOp] at ha0 hev
           rw [Option.map_eq_some_iff] at ha0 hev
           obtain ⟨u, hu, e⟩ := ha0
           obtain ⟨u', hu', e'⟩ := hev
           injection e with e1 e2
           injection e' with e3 e4
           subst e1 e2 e3
           have := readV_keep hk hu
           rw [hu'] at this
           injection this with this
           exact ⟨this.symm, rfl⟩
         | _ => rw [hop] at hL; cases hL
      obtain ⟨rfl, rfl⟩ := this
      exact ⟨β', s'⟩
     ·exact hun
   ·cases hst
theorem newBlk_keep {h : Heap} {cs : List Value} : h.length ≤ (newBlk h cs).length ∧ ∀ b, b < h.length → (newBlk h cs)[b]? = h[b]? := by
 unfold newBlk
 exact ⟨by simp, fun b hb => by rw [List.getElem?_append_left hb]⟩
theorem isNew_keep {op : AOp} {a : Value} {h' : Heap} (hn : (match op with | .alloc .. | .box .. | .buildSlice .. | .makeSlice .. | .strBytes .. => true | _ => false) = true) (hx : aOp op tA h = some (a, h')) :
 h.length ≤ h'.length ∧ ∀ b, b < h.length → h'[b]? = h[b]? := by
 cases op <;> first | (cases hn; done) | skip
 all_goals simp only [aOp] at hx
 all_goals (repeat' split at hx)
 all_goals first
  | (cases hx; done)
  | (injection hx with hx; injection hx with e1 e2; subst e2; exact newBlk_keep)
  | (injection hx with hx; injection hx with e1 e2; subst e2; exact ⟨Nat.le_refl _, fun _ _ => rfl⟩)
  | (rw [Option.map_eq_some_iff] at hx; obtain ⟨u, hu, e⟩ := hx; injection e with e1 e2; subst e2; exact newBlk_keep)
theorem good_keep (hsim : CallSim cw (callA EA)) {tbl : List (Nat × String)} (s : SR M β h t tA) {o : WOper} {t1 : TT} (hg : goodW o t = true) (hx : stepW tbl cw o t = some t1) {tA' : T} {h' : Heap} (hst : stepA (callA EA) o.a tA h = some (tA', h')) :
 h.length ≤ h'.length ∧ ∀ b, b < h.length → h'[b]? = h[b]? := by
 unfold stepW at hx
 split at hx
 ·rename_i hw
  have hwa := wantedW_ok s hw
  simp only [stepA, WOper.a, hwa, if_true] at hst
  split at hst
  ·rename_i a h2 hev
   injection hst with hst; injection hst with e1 e2
   subst e2
   simp only [goodW, hw] at hg
   cases hop : o.op with
   | call f args =>
     rw [hop] at hg hev
     simp only at hg
     split at hg
     ·cases hg
     ·rename_i hf
      split at hg
      ·rename_i aa ha
       rw [Bool.and_eq_true] at hg
       have hds : aa.ds = [] := by simpa using hg.1
       have hhs : aa.hs = [] := by simpa using hg.2
       split at hx
       ·rename_i v t' hevw
        unfold evalW at hevw
        rw [hop] at hevw
        simp only at hevw
        rw [if_neg hf] at hevw
        unfold callW at hevw
        simp only [ha] at hevw
        split at hevw
        ·rename_i hcond
         have hle : aa.avs.length ≤ hidB := by
          simp only [Bool.and_eq_true, decide_eq_true_eq] at hcond
          exact hcond.1.1
         rw [hhs] at hevw
         simp only [boxesC] at hevw
         split at hevw
         ·rename_i r hr
          obtain ⟨v', h'', q1, q2, q3⟩ := callW_keep hsim s ha hds hhs hle hr
          simp only [evalA] at hev
          rw [q1] at hev
          injection hev with hev; injection hev with z1 z2
          subst z2
          exact ⟨q2, q3⟩
         ·cases hevw
        ·cases hevw
       ·cases hx
      ·cases hg
   | _ =>
     rw [hop] at hg hev
     first
     | (cases hg; done)
     | (simp only [evalA] at hev; exact isNew_keep (by rfl) hev)
  ·cases hst
 ·rename_i hw
  have hwa := wantedW_ok s hw
  simp only [stepA, WOper.a, hwa] at hst
  injection hst with hst; injection hst with e1 e2
  subst e2
  exact ⟨Nat.le_refl _, fun _ _ => rfl⟩
 ·cases hx
theorem loads_ok {β0 : Bt} {h0 : Heap} {to : TT} (s0 : SR M β0 h0 to tA) (hk : ∀ b, b < h0.length → h[b]? = h0[b]?) {o : WOper} {w : Bool} (hw : wantedW o.guard t = some w) (hwa : wantedA o.guard tA = w) :
 (loadsW o t to).length = (loadRec o.a tA h).length ∧ ∀ i, (loadsW o t to).getD i false = true → (loadRec o.a tA h)[i]? = some none ∨ ∃ n a v, (loadRec o.a tA h)[i]? = some (some (n, a, v)) ∧ ∀ h2 : Heap, (∀ b, b < h0.length → h2[b]? = h0[b]?) → readV h2 n a = some v := by
 unfold loadsW loadRec
 simp only [WOper.a, hw, hwa]
 cases hop : o.op with
 | load n x =>
   simp only
   cases w with
   | false => exact ⟨by simp, fun i hi => by cases i with | zero => exact .inl (by simp) | succ i => simp at hi⟩
   | true =>
     simp only [if_true]
     refine ⟨by split <;> rfl, fun i hi => ?_⟩
     cases i with
     | succ i => simp at hi
     | zero =>
       simp only [List.getD_cons_zero, Option.isSome_iff_exists] at hi
       obtain ⟨⟨v, to1⟩, hev⟩ := hi
       obtain ⟨a0, h0', ha0, _⟩ := op_sound' s0 hev
       simp only [aOp] at ha0
       rw [Option.map_eq_some_iff] at ha0
       obtain ⟨u, hu, _⟩ := ha0
       refine .inr ⟨n, Ev tA x, u, ?_, fun h2 hk2 => readV_keep hk2 hu⟩
       rw [readV_keep hk hu]
       rfl
 | _ => exact ⟨rfl, fun i hi => by simp at hi⟩
theorem drawL_stop {tbl : List (Nat × String)} : ∀ {l : List WOper} {t to t1 : TT} {st st1 : Nat} {L : List Bool}, drawL tbl cw l t to st false = some (t1, st1, L) → st1 = st
 | [], t, to, t1, st, st1, L, hx => by
   simp only [drawL] at hx; injection hx with hx; injection hx with e1 hx; injection hx with e2 e3
   exact e2.symm
 | o :: l, t, to, t1, st, st1, L, hx => by
   simp only [drawL, Bool.false_and, Bool.and_false, Bool.false_eq_true, if_false] at hx
   split at hx
   ·cases hx
   ·rw [Option.map_eq_some_iff] at hx
    obtain ⟨⟨a, b, c⟩, hr, e⟩ := hx
    injection e with e1 e; injection e with e2 e3
    simp only at e2
    subst e2
    exact drawL_stop hr
theorem drawL_sound (hsim : CallSim cw (callA EA)) {tbl : List (Nat × String)} (hE : EA "@dyn" = some (.dyn tbl)) {h0 : Heap} : ∀ {l : List WOper} {β : Bt} {h : Heap} {t to t1 : TT} {tA : T} {st st1 : Nat} {g : Bool} {L : List Bool},
 SR M β h t tA → (g = true → ∃ β', SR M β' h0 to tA) → (g = true → h0.length ≤ h.length ∧ ∀ b, b < h0.length → h[b]? = h0[b]?) → drawL tbl cw l t to st g = some (t1, st1, L) →
 ∃ tA' h' β' G LR, execLog (callA EA) (l.map WOper.a) tA h = some (tA', h', G, LR) ∧ Fr β h β' h' ∧ SR M β' h' t1 tA' ∧ st ≤ st1 ∧
   (∀ j, j < st1 - st → ∃ hj, G[j]? = some hj ∧ ∀ b, b < h0.length → hj[b]? = h0[b]?) ∧ L.length = LR.length ∧
   (∀ i, L.getD i false = true → LR[i]? = some none ∨ ∃ n a v, LR[i]? = some (some (n, a, v)) ∧ ∀ h2 : Heap, (∀ b, b < h0.length → h2[b]? = h0[b]?) → readV h2 n a = some v)
 | [], β, h, t, to, t1, tA, st, st1, g, L, s, _, _, hx => by
   simp only [drawL] at hx; injection hx with hx; injection hx with e1 hx; injection hx with e2 e3
   subst e1 e2 e3
   exact ⟨tA, h, β, [], [], rfl, .refl, s, Nat.le_refl _, fun j hj => by omega, rfl, fun i hi => by simp at hi⟩
 | o :: l, β, h, t, to, t1, tA, st, st1, g, L, s, hso, hk, hx => by
   simp only [drawL] at hx
   split at hx
   ·cases hx
   ·rename_i t' hs
    rw [Option.map_eq_some_iff] at hx
    obtain ⟨⟨r1, r2, r3⟩, hr, e⟩ := hx
    injection e with e1 e; injection e with e2 e3
    simp only at e1 e2 e3
    subst e1 e2
    obtain ⟨tA1, h1, β1, q1, q2, q3⟩ := stepW_sound hsim hE s hs
    obtain ⟨w, hw⟩ : ∃ w, wantedW o.guard t = some w := by
     unfold stepW at hs
     cases hw : wantedW o.guard t with
     | none => simp only [hw] at hs; cases hs
     | some w => exact ⟨w, rfl⟩
    have hwa := wantedW_ok s hw
    have hkeep : (g && (!isE o.op || goodW o t)) = true → h.length ≤ h1.length ∧ ∀ b, b < h.length → h1[b]? = h[b]? := by
     intro hg
     rw [Bool.and_eq_true, Bool.or_eq_true] at hg
     rcases hg.2 with he | hgood
     ·have he : isE o.a.op = false := by
       show isE o.op = false
       simpa using he
      have := step_heap q1 he
      subst this
      exact ⟨Nat.le_refl _, fun _ _ => rfl⟩
     ·exact good_keep hsim s hgood hs q1
    have hk1 : (g && (!isE o.op || goodW o t)) = true → h0.length ≤ h1.length ∧ ∀ b, b < h0.length → h1[b]? = h0[b]? := by
     intro hg
     obtain ⟨k1, k2⟩ := hkeep hg
     obtain ⟨k3, k4⟩ := hk (by rw [Bool.and_eq_true] at hg; exact hg.1)
     exact ⟨Nat.le_trans k3 k1, fun b hb => by rw [k2 b (by omega), k4 b hb]⟩
    have hso1 : (g && (!isE o.op || goodW o t)) = true → ∃ β', SR M β' h0 (oldW o t to) tA1 := by
     intro hg
     rw [Bool.and_eq_true] at hg
     obtain ⟨β0, s0⟩ := hso hg.1
     exact oldW_sr s0 (hk hg.1).2 hw hwa q1
    obtain ⟨tA2, h2, β2, G, LR, x1, x2, x3, x4, x5, x6, x7⟩ := drawL_sound hsim hE q3 hso1 hk1 hr
    have hlen : (loadsW o t to).length = (loadRec o.a tA h).length := by
     unfold loadsW loadRec
     simp only [WOper.a]
     cases hop : o.op with
     | load n x => simp only [hw, hwa]; cases w <;> simp <;> split <;> rfl
     | _ => rfl
    refine ⟨tA2, h2, β2, if isE o.op then h1 :: G else G, loadRec o.a tA h ++ LR, ?_, q2.trans x2, x3, ?_, ?_, ?_, ?_⟩
    ·simp only [List.map_cons, execLog, q1, x1]
     rfl
    ·have := x4
     split at this <;> omega
    ·intro j hj
     cases hE2 : isE o.op with
     | false =>
       simp only [hE2, Bool.false_and, Bool.false_eq_true, if_false] at x4 x5 ⊢
       exact x5 j hj
     | true =>
       simp only [if_true]
       cases hgg : (g && goodW o t) with
       | false =>
         have hf : (g && (!isE o.op || goodW o t)) = false := by rw [hE2]; simpa using hgg
         rw [hf] at hr
         have := drawL_stop hr
         rw [hE2, hgg] at this
         simp only [Bool.and_false, Bool.false_eq_true, if_false] at this
         omega
       | true =>
         have ht : (g && (!isE o.op || goodW o t)) = true := by rw [hE2]; simpa using hgg
         rw [hE2, hgg] at x5
         simp only [Bool.and_true, if_true] at x5
         cases j with
         | zero => exact ⟨h1, rfl, (hk1 ht).2⟩
         | succ j => simpa using x5 j (by omega)
    ·rw [← e3, List.length_append, List.length_append, List.length_map, x6, hlen]
    ·intro i hi
     rw [← e3] at hi
     by_cases hlt : i < (loadRec o.a tA h).length
     ·rw [List.getElem?_append_left hlt]
      rw [List.getD_eq_getElem?_getD, List.getElem?_append_left (by rw [List.length_map, hlen]; exact hlt), List.getElem?_map] at hi
      cases hg : g with
      | false =>
        rw [hg] at hi
        cases hL : (loadsW o t to)[i]? with
        | none => rw [hL] at hi; simp at hi
        | some x => rw [hL] at hi; simp at hi
      | true =>
        obtain ⟨β0, s0⟩ := hso hg
        refine (loads_ok s0 (hk hg).2 hw hwa).2 i ?_
        rw [List.getD_eq_getElem?_getD]
        rw [hg] at hi
        cases hL : (loadsW o t to)[i]? with
        | none => rw [hL] at hi; simp at hi
        | some x => rw [hL] at hi; simpa using hi
     ·rw [List.getElem?_append_right (by omega)]
      rw [List.getD_eq_getElem?_getD, List.getElem?_append_right (by rw [List.length_map, hlen]; omega), List.length_map, hlen, ← List.getD_eq_getElem?_getD] at hi
      exact x7 _ hi
theorem other_keep (s : SR M β h t tA) {o : WOper} {x : Nat} (hg : stOther o t x = true) {tA' : T} {h' : Heap} (hw : wantedA o.guard tA = true) (hst : stepA (callA EA) o.a tA h = some (tA', h')) {n : Option Nat} {v : Value} (hr : readV h n (tA x) = some v) :
 readV h' n (tA x) = some v := by
 unfold stOther at hg
 split at hg
 ·rename_i m a y hop
  unfold stO at hg
  simp only [stepA, WOper.a, hw, if_true, evalA, hop, aOp] at hst
  split at hst
  ·rename_i v1 h1 hev
   injection hst with hst; injection hst with e1 e2
   subst e2
   rw [Option.map_eq_some_iff] at hev
   obtain ⟨hw2, hwr, hev⟩ := hev
   injection hev with e3 e4
   subst e4
   have main : ∀ (k : Nat) (c : Option Nat) (off : Nat), plc t a = some (k, c, off) → (∀ b bx ox, tA x = .pointer (some ⟨bx, ox, none⟩) → β k c = some b → bx ≠ b) → readV hw2 n (tA x) = some v := by
    intro k c off hp hne
    obtain ⟨b, hb, ha⟩ := plc_ok s hp
    have hsame : ∀ b', b' ≠ b → hw2[b']? = h[b']? := by
     intro b' hb'
     rw [ha] at hwr
     unfold writeV at hwr
     split at hwr
     ·rename_i b2 o2 heq
      injection heq with heq; injection heq with heq; injection heq with e5 e6
      subst e5
      split at hwr
      ·unfold write1 at hwr
       split at hwr
       ·split at hwr
        ·injection hwr with hwr; subst hwr; exact List.getElem?_set_ne (Ne.symm hb')
        ·cases hwr
       ·cases hwr
      ·cases hwr
     ·rename_i b2 o2 m2 heq
      injection heq with heq; injection heq with heq; injection heq with e5 e6
      subst e5
      split at hwr
      ·split at hwr
       ·unfold writeN at hwr
        split at hwr
        ·split at hwr
         ·injection hwr with hwr; subst hwr; exact List.getElem?_set_ne (Ne.symm hb')
         ·cases hwr
        ·cases hwr
       ·cases hwr
      ·cases hwr
     ·cases hwr
    cases hax : tA x with
    | pointer p =>
      cases p with
      | none => rw [hax] at hr; simp only [readV] at hr; cases hr
      | some ad =>
        obtain ⟨bx, ox, sx⟩ := ad
        cases sx with
        | some _ => rw [hax] at hr; simp only [readV] at hr; cases hr
        | none =>
          have hbx := hne b bx ox hax hb
          rw [hax] at hr
          have hs := hsame bx hbx
          unfold readV at hr ⊢
          cases n with
          | none =>
            simp only at hr ⊢
            unfold read1 at hr ⊢
            rw [hs]; exact hr
          | some n =>
            simp only at hr ⊢
            unfold readN at hr ⊢
            rw [hs]; exact hr
    | _ => rw [hax] at hr; simp only [readV] at hr; cases hr
   have tr := s.tr x
   split at hg
   ·rename_i k c off k' c' off' hp hv
    refine main k c off hp (fun b bx ox hax hb => ?_)
    rw [hv] at tr
    obtain ⟨b2, h2, h3⟩ := tr
    rw [hax] at h3
    injection h3 with h3; injection h3 with h3; injection h3 with h3 _
    rintro rfl
    rw [← h3] at h2
    have := (s.inj _ _ _ _ _ h2 hb).1
    simp [this] at hg
   ·rename_i k c off cs hp hv
    refine main k c off hp (fun b bx ox hax hb => ?_)
    rw [hv] at tr
    obtain ⟨b2, ca, h2, h3, _⟩ := tr
    rw [hax] at h3
    injection h3 with h3; injection h3 with h3; injection h3 with h3 _
    rintro rfl
    rw [← h3] at h2
    have := (s.inj _ _ _ _ _ h2 hb).1
    simp [this] at hg
   ·rename_i p cs off hp hv
    obtain ⟨k, c, off0⟩ := p
    refine main k c off0 hp (fun b bx ox hax hb => ?_)
    rw [hv] at tr
    obtain ⟨b2, o2, ro, ca, h3, hn, _⟩ := tr
    rw [hax] at h3
    injection h3 with h3; injection h3 with h3; injection h3 with h3 _
    rintro rfl
    exact hn (.inr ⟨k, c, by rw [← h3]; exact hb⟩)
   ·cases hg
  ·cases hst
 ·cases hg
theorem stepW_wanted {tbl : List (Nat × String)} {o : WOper} {t' : TT} (hs : stepW tbl cw o t = some t') : ∃ w, wantedW o.guard t = some w := by
 unfold stepW at hs
 cases hw : wantedW o.guard t with
 | none => simp only [hw] at hs; cases hs
 | some w => exact ⟨w, rfl⟩
theorem fwd_sound (hsim : CallSim cw (callA EA)) {tbl : List (Nat × String)} (hE : EA "@dyn" = some (.dyn tbl)) : ∀ {l : List WOper} {β : Bt} {h : Heap} {t : TT} {tA tA1 : T} {h1 : Heap} {G : List Heap} {LR : List LoadRec} {x : Option Nat} {n : Option Nat} {a v : Value},
 SR M β h t tA → execLog (callA EA) (l.map WOper.a) tA h = some (tA1, h1, G, LR) → (∀ y, x = some y → tA y = a ∧ readV h n a = some v) →
  ∀ j, j ≤ fwd tbl cw l t x → ∃ hj, (h :: G)[j]? = some hj ∧ (x ≠ none → readV hj n a = some v)
 | [], β, h, t, tA, tA1, h1, G, LR, x, n, a, v, s, hx, hv, j, hj => by
   simp only [fwd] at hj
   have : j = 0 := by omega
   subst this
   refine ⟨h, rfl, fun hne => ?_⟩
   cases x with
   | none => exact absurd rfl hne
   | some y => exact (hv y rfl).2
 | o :: l, β, h, t, tA, tA1, h1, G, LR, x, n, a, v, s, hx, hv, j, hj => by
   have h0 : ∃ hj, (h :: G)[0]? = some hj ∧ (x ≠ none → readV hj n a = some v) := by
    refine ⟨h, rfl, fun hne => ?_⟩
    cases x with
    | none => exact absurd rfl hne
    | some y => exact (hv y rfl).2
   simp only [fwd] at hj
   split at hj
   ·rename_i t' hs
    split at hj
    ·rename_i hp
     obtain ⟨tA2, h2, β2, q1, q2, q3⟩ := stepW_sound hsim hE s hs
     obtain ⟨w, hw⟩ := stepW_wanted hs
     have hwa := wantedW_ok s hw
     simp only [List.map_cons, execLog, q1] at hx
     split at hx
     ·rename_i t2 h3 G2 L2 hrest
      injection hx with hx; injection hx with e1 hx; injection hx with e2 hx; injection hx with e3 e4
      subst e1 e2 e3 e4
      have hv2 : ∀ y, x = some y → tA2 y = a ∧ readV h2 n a = some v := by
       intro y hy
       subst hy
       obtain ⟨g1, g2⟩ := hv y rfl
       simp only [presW, Bool.and_eq_true, bne_iff_ne, ne_eq] at hp
       obtain ⟨vv, e5, hcase⟩ := step_inv q1
       have hty : tA2 y = a := by
        rw [e5, put_other (show o.a.dst ≠ some y from hp.1)]
        exact g1
       refine ⟨hty, ?_⟩
       rcases Bool.eq_false_or_eq_true (isE o.op) with he | he
       ·rw [he] at hp
        simp only [Bool.not_true, Bool.false_or, Bool.or_eq_true] at hp
        rcases hp.2 with hg | hg
        ·have hk := good_keep hsim s hg hs q1
         exact readV_keep hk.2 g2
        ·rcases hcase with ⟨hwt, _⟩ | ⟨hwf, _, hh⟩
         ·rw [← g1] at g2 ⊢
          exact other_keep s hg hwt q1 g2
         ·rw [hh]; exact g2
       ·have := step_heap q1 (show isE o.a.op = false from he)
        rw [this]; exact g2
      cases he : isE o.op with
      | false =>
        rw [he] at hj
        simp only [Bool.false_eq_true, if_false] at hj
        have he2 : isE o.a.op = false := he
        have hh := step_heap q1 he2
        subst hh
        simp only [he2, Bool.false_eq_true, if_false]
        exact fwd_sound hsim hE q3 hrest hv2 j hj
      | true =>
        rw [he] at hj
        simp only [if_true] at hj
        have he2 : isE o.a.op = true := he
        simp only [he2, if_true]
        cases j with
        | zero => exact h0
        | succ j =>
          have := fwd_sound hsim hE q3 hrest hv2 j (by omega)
          simpa using this
     ·cases hx
    ·have : j = 0 := by omega
     subst this; exact h0
   ·have : j = 0 := by omega
    subst this; exact h0
theorem fwdL_sound (hsim : CallSim cw (callA EA)) {tbl : List (Nat × String)} (hE : EA "@dyn" = some (.dyn tbl)) : ∀ {l : List WOper} {β : Bt} {h : Heap} {t : TT} {tA tA1 : T} {h1 : Heap} {G : List Heap} {LR : List LoadRec} {ct : Nat},
 SR M β h t tA → execLog (callA EA) (l.map WOper.a) tA h = some (tA1, h1, G, LR) → ∀ (i si fw : Nat), (fwdL tbl cw l t ct)[i]? = some (si, fw) → si ≤ fw →
  ct ≤ si ∧ ((LR[i]? = some none ∧ ∀ j, si ≤ j → j ≤ fw → ∃ hj, (h :: G)[j - ct]? = some hj) ∨ ∃ n a v, LR[i]? = some (some (n, a, v)) ∧ ∀ j, si ≤ j → j ≤ fw → ∃ hj, (h :: G)[j - ct]? = some hj ∧ readV hj n a = some v)
 | [], β, h, t, tA, tA1, h1, G, LR, ct, s, hx, i, si, fw, hi, _ => by simp [fwdL] at hi
 | o :: l, β, h, t, tA, tA1, h1, G, LR, ct, s, hx, i, si, fw, hi, hle => by
   simp only [fwdL] at hi
   split at hi
   ·rename_i t' hs
    obtain ⟨tA2, h2, β2, q1, q2, q3⟩ := stepW_sound hsim hE s hs
    obtain ⟨w, hw⟩ := stepW_wanted hs
    have hwa := wantedW_ok s hw
    simp only [List.map_cons, execLog, q1] at hx
    split at hx
    ·rename_i t2 h3 G2 L2 hrest
     injection hx with hx; injection hx with e1 hx; injection hx with e2 hx; injection hx with e3 e4
     subst e1 e2 e3 e4
     have tail : ∀ i : Nat, (fwdL tbl cw l t' (if isE o.op then ct + 1 else ct))[i]? = some (si, fw) → ct ≤ si ∧ ((L2[i]? = some none ∧ ∀ j, si ≤ j → j ≤ fw → ∃ hj, (h :: if isE o.a.op then h2 :: G2 else G2)[j - ct]? = some hj) ∨ ∃ n a v, L2[i]? = some (some (n, a, v)) ∧ ∀ j, si ≤ j → j ≤ fw → ∃ hj, (h :: if isE o.a.op then h2 :: G2 else G2)[j - ct]? = some hj ∧ readV hj n a = some v) := by
      intro i hi
      obtain ⟨g1, g2⟩ := fwdL_sound hsim hE q3 hrest i si fw hi hle
      have shift : ∀ j hj, si ≤ j → (h2 :: G2)[j - (if isE o.op then ct + 1 else ct)]? = some hj → (h :: if isE o.a.op then h2 :: G2 else G2)[j - ct]? = some hj := by
       intro j hj hsj hx
       cases he : isE o.op with
       | false =>
         rw [he] at hx g1
         have he2 : isE o.a.op = false := he
         have hh := step_heap q1 he2
         subst hh
         simpa [he2] using hx
       | true =>
         rw [he] at hx g1
         have he2 : isE o.a.op = true := he
         simp only [if_true] at hx g1
         simp only [he2, if_true]
         rw [show j - ct = (j - (ct + 1)) + 1 by omega]
         simpa using hx
      refine ⟨by split at g1 <;> omega, ?_⟩
      rcases g2 with ⟨g2, g3⟩ | ⟨n, a, v, g2, g3⟩
      ·refine .inl ⟨g2, fun j hj1 hj2 => ?_⟩
       obtain ⟨hj, g4⟩ := g3 j hj1 hj2
       exact ⟨hj, shift j hj hj1 g4⟩
      ·refine .inr ⟨n, a, v, g2, fun j hj1 hj2 => ?_⟩
       obtain ⟨hj, g4, g5⟩ := g3 j hj1 hj2
       exact ⟨hj, shift j hj hj1 g4, g5⟩
     cases hl : isLoad o.op with
     | false =>
       rw [hl] at hi
       simp only [Bool.false_eq_true, if_false, List.nil_append] at hi
       have hnil : loadRec o.a tA h = [] := by
        unfold loadRec
        show (match o.op with | .load n x => _ | _ => _) = _
        cases hop : o.op <;> first | rfl | (rw [hop] at hl; cases hl)
       rw [hnil, List.nil_append]
       exact tail i hi
     | true =>
       rw [hl] at hi
       simp only [if_true] at hi
       have hne : isE o.op = false := by
        cases hop : o.op <;> rw [hop] at hl <;> first | rfl | (cases hl)
       have hh := step_heap q1 (show isE o.a.op = false from hne)
       have hlen : (loadRec o.a tA h).length = 1 := by
        rw [loadRec_length]
        show (if isLoad o.op = true then 1 else 0) = 1
        rw [hl]; rfl
       cases i with
       | succ i =>
         rw [List.getElem?_append_right (by simp)] at hi
         rw [List.getElem?_append_right (by omega), hlen]
         exact tail i (by simpa using hi)
       | zero =>
         rw [List.getElem?_append_left (by simp)] at hi
         simp only [List.getElem?_cons_zero] at hi
         injection hi with hi
         rw [List.getElem?_append_left (by omega)]
         have he2 : isE o.a.op = false := hne
         simp only [he2, Bool.false_eq_true, if_false]
         split at hi
         ·rename_i x hadr
          injection hi with e5 e6
          subst e5
          refine ⟨Nat.le_refl _, ?_⟩
          unfold adrW at hadr
          split at hadr
          ·rename_i n y hop
           split at hadr
           ·rename_i hwf
            injection hadr with hadr; subst hadr
            have hwa : wantedA o.guard tA = false := wantedW_ok s hwf
            refine .inl ⟨by simp only [loadRec, WOper.a, hop, hwa]; rfl, fun j hj1 hj2 => ?_⟩
            obtain ⟨hj, g1, _⟩ := fwd_sound (x := none) (n := none) (a := undef) (v := undef) hsim hE q3 hrest (fun y hy => by cases hy) (j - ct) (by omega)
            rw [hh] at g1
            exact ⟨hj, g1⟩
           ·rename_i hwf
            split at hadr
            ·cases hadr
            ·rename_i hnd
             injection hadr with hadr; subst hadr
             have hw1 : w = true := by
              cases w with
              | true => rfl
              | false => exact absurd hw hwf
             subst hw1
             obtain ⟨vv, e7, hcase⟩ := step_inv q1
             rcases hcase with ⟨_, hev⟩ | ⟨hwf2, _⟩
             ·simp only [WOper.a, hop, evalA, aOp] at hev
              rw [Option.map_eq_some_iff] at hev
              obtain ⟨u, hu, hev⟩ := hev
              injection hev with e8 e9
              simp only [Ev] at hu
              have hty : tA2 y = tA y := by
               rw [e7, put_other]
               intro hc
               have hc : o.dst = some y := hc
               simp [hc] at hnd
              refine .inr ⟨n, tA y, u, ?_, fun j hj1 hj2 => ?_⟩
              ·simp only [loadRec, WOper.a, hop, hwa, if_true, Ev, hu, List.getElem?_cons_zero]
              ·obtain ⟨hj, g1, g2⟩ := fwd_sound (x := some y) (n := n) (a := tA y) (v := u) hsim hE q3 hrest (fun z hz => by
                injection hz with hz; subst hz
                exact ⟨hty, by rw [hh]; exact hu⟩) (j - ct) (by omega)
               rw [hh] at g1
               exact ⟨hj, g1, g2 (by simp)⟩
             ·rw [show wantedA o.a.guard tA = true from hwa] at hwf2; cases hwf2
          ·rename_i n y hny hop
           split at hadr
           ·rename_i hwf
            injection hadr with hadr; subst hadr
            have hwa : wantedA o.guard tA = false := wantedW_ok s hwf
            refine .inl ⟨by simp only [loadRec, WOper.a, hop, hwa]; rfl, fun j hj1 hj2 => ?_⟩
            obtain ⟨hj, g1, _⟩ := fwd_sound (x := none) (n := none) (a := undef) (v := undef) hsim hE q3 hrest (fun y hy => by cases hy) (j - ct) (by omega)
            rw [hh] at g1
            exact ⟨hj, g1⟩
           ·cases hadr
          ·cases hadr
         ·injection hi with e5 e6
          omega
    ·cases hx
   ·simp at hi
theorem drawW_sound (hsim : CallSim cw (callA EA)) {tbl : List (Nat × String)} (hE : EA "@dyn" = some (.dyn tbl)) (s : SR M β h t tA) {l : List WOper} {ps : List (Nat × Nat)} {t1 : TT} (hx : drawW tbl cw l ps t = some t1) :
 ∃ tA' h' β', execDrawn (callA EA) (l.map WOper.a) ps tA h = some (tA', h') ∧ Fr β h β' h' ∧ SR M β' h' t1 tA' := by
 unfold drawW at hx
 split at hx
 ·rename_i t' st L hd
  split at hx
  ·rename_i hall
   injection hx with hx
   subst hx
   obtain ⟨tA', h', β', G, LR, x1, x2, x3, x4, x5, x6, x7⟩ := drawL_sound hsim hE (h0 := h) s (fun _ => ⟨β, s⟩) (fun _ => ⟨Nat.le_refl _, fun _ _ => rfl⟩) hd
   refine ⟨tA', h', β', ?_, x2, x3⟩
   have stage : ∀ j, j ≤ st → ∃ hj, (h :: G)[j]? = some hj ∧ ∀ b, b < h.length → hj[b]? = h[b]? := by
    intro j hj
    cases j with
    | zero => exact ⟨h, rfl, fun _ _ => rfl⟩
    | succ j => simpa using x5 j (by omega)
   have hc : checkPairs (h :: G) LR ps := by
    rw [List.all_eq_true] at hall
    have x1' := x1
    clear hd x1 x5
    induction ps with
    | nil => trivial
    | cons p ps ih =>
      refine ⟨?_, ih (fun q hq => hall q (by simp [hq]))⟩
      have hp := hall p (by simp)
      rw [Bool.or_eq_true] at hp
      rcases hp with hp | hp
      ·rw [Bool.and_eq_true, decide_eq_true_eq] at hp
       obtain ⟨hj, y1, y2⟩ := stage p.2 hp.2
       unfold sameAt
       rw [y1]
       rcases x7 p.1 hp.1 with e | ⟨n, a, v, e, hr⟩
       ·rw [e]; trivial
       ·rw [e]; exact hr hj y2
      ·unfold fOk at hp
       rw [Bool.and_eq_true, decide_eq_true_eq, decide_eq_true_eq] at hp
       cases hF : (fwdL tbl cw l t 0)[p.1]? with
       | none =>
         rw [List.getD_eq_getElem?_getD, hF] at hp
         simp only [Option.getD_none] at hp
         omega
       | some e =>
         obtain ⟨si, fw⟩ := e
         rw [List.getD_eq_getElem?_getD, hF] at hp
         simp only [Option.getD_some] at hp
         obtain ⟨_, g⟩ := fwdL_sound hsim hE s x1' p.1 si fw hF (by omega)
         unfold sameAt
         rcases g with ⟨g1, g2⟩ | ⟨n, a, v, g1, g2⟩
         ·obtain ⟨hj, g3⟩ := g2 p.2 hp.1 hp.2
          rw [g1, show (h :: G)[p.2]? = some hj by simpa using g3]; trivial
         ·obtain ⟨hj, g3, g4⟩ := g2 p.2 hp.1 hp.2
          rw [g1, show (h :: G)[p.2]? = some hj by simpa using g3]; exact g4
   unfold execDrawn
   rw [x1]
   simp only
   rw [if_pos hc]
  ·cases hx
 ·cases hx
end
end Go.Wb
namespace Go.Wb
open Go
section
variable {M : Nat → Prop} {β : Bt} {h : Heap} {t : TT} {tA : T}
def resIdx : ARes → Nat
 | .tmp i => i
 | .cell i _ => i
def keyB (β : Bt) : ARes → Option Nat
 | .tmp i => β i none
 | .cell i none => β i (some 0)
 | .cell _ (some _) => none
theorem resOk_at : ∀ {rs : List ARes} {avs : List AV}, resOk avs rs = true → (rs.map resIdx).Nodup ∧ ∀ r ∈ rs, (∃ p, avs[resIdx r]? = some (.v p)) ∨ (avs[resIdx r]? = none ∧ resIdx r < hidB)
 | [], avs, _ => ⟨List.nodup_nil, by simp⟩
 | r :: l, avs, hx => by
   simp only [resOk, Bool.and_eq_true] at hx
   obtain ⟨h1, h2⟩ := hx
   obtain ⟨i1, i2⟩ := resOk_at h2
   have key : ∀ i, resIdx r = i → (!l.any (fun q => match q with | .tmp j => i == j | .cell j _ => i == j) && (match avs[i]? with | some (.v _) => true | none => decide (i < hidB) | _ => false)) = true → ((r :: l).map resIdx).Nodup ∧ ∀ q ∈ r :: l, (∃ p, avs[resIdx q]? = some (.v p)) ∨ (avs[resIdx q]? = none ∧ resIdx q < hidB) := by
    intro i hi hc
    simp only [Bool.and_eq_true, Bool.not_eq_true'] at hc
    obtain ⟨c1, c2⟩ := hc
    constructor
    ·rw [List.map_cons, List.nodup_cons]
     refine ⟨fun hm => ?_, i1⟩
     obtain ⟨q, hq, he⟩ := List.mem_map.1 hm
     rw [List.any_eq_false] at c1
     have := c1 q hq
     rw [hi] at he
     cases q <;> simp_all [resIdx]
    ·intro q hq
     rcases List.mem_cons.1 hq with e | hq
     ·subst e
      rw [hi]
      split at c2
      ·rename_i p hp; exact .inl ⟨p, hp⟩
      ·rename_i hp; exact .inr ⟨hp, by simpa using c2⟩
      ·cases c2
     ·exact i2 q hq
   cases r with
   | tmp i => exact key i rfl h1
   | cell i m => exact key i rfl h1
def keepRes (β : Bt) (rs : List ARes) : Bt := fun k c => if k ∈ rs.map resIdx then none else β k c
theorem resW_ok (s : SR M β h t tA) {N : Nat → Prop} : ∀ {rs : List ARes} {cs : List CV}, resW t rs = some cs → (∀ b, N b → NF M β b) → (∀ r ∈ rs, ∀ j b, (∃ i m, r = .cell i (some m)) → β (resIdx r) (some j) = some b → ¬ N b) →
 ∃ vs, resVals tA h rs = some vs ∧ vs.length = cs.length ∧ cs.length = rs.length ∧ ∀ q, q < cs.length → match cs.getD q .gone with
   | .v p => FR h N p (vs.getD q Go.undef)
   | .o n s l => OwnAt h N (keyB β (rs.getD q (.tmp 0))) n s l (vs.getD q Go.undef)
   | .gone => True
 | [], cs, hx, _, _ => by
   simp only [resW] at hx; injection hx with hx; subst hx
   exact ⟨[], rfl, rfl, rfl, by simp⟩
 | r :: rs, cs, hx, hN, hC => by
   have tail : ∀ {cs'}, resW t rs = some cs' → ∃ vs, resVals tA h rs = some vs ∧ vs.length = cs'.length ∧ cs'.length = rs.length ∧ ∀ q, q < cs'.length → match cs'.getD q .gone with
    | .v p => FR h N p (vs.getD q Go.undef)
    | .o n s l => OwnAt h N (keyB β (rs.getD q (.tmp 0))) n s l (vs.getD q Go.undef)
    | .gone => True := fun hc => resW_ok s hc hN (fun r hr => hC r (by simp [hr]))
   have hk : Keeps h (NF M β) h N := Keeps.less hN
   have fin : ∀ {cs' : List CV} {c : CV} {v : Value}, resW t rs = some cs' → cs = c :: cs' → (∀ vs, resVals tA h rs = some vs → resVals tA h (r :: rs) = some (v :: vs)) → (match c with
    | .v p => FR h N p v
    | .o n s l => OwnAt h N (keyB β r) n s l v
    | .gone => True) → ∃ vs, resVals tA h (r :: rs) = some vs ∧ vs.length = cs.length ∧ cs.length = (r :: rs).length ∧ ∀ q, q < cs.length → match cs.getD q .gone with
      | .v p => FR h N p (vs.getD q Go.undef)
      | .o n s l => OwnAt h N (keyB β ((r :: rs).getD q (.tmp 0))) n s l (vs.getD q Go.undef)
      | .gone => True := by
    intro cs' c v hc he hv hcv
    subst he
    obtain ⟨vs, q1, q2, q3, q4⟩ := tail hc
    refine ⟨v :: vs, hv vs q1, by simp [q2], by simp [q3], fun q hq => ?_⟩
    cases q with
    | zero => exact hcv
    | succ q => exact q4 q (by simpa using hq)
   cases r with
   | tmp i =>
     simp only [resW] at hx
     have htr := s.tr i
     have hv : ∀ vs, resVals tA h rs = some vs → resVals tA h (.tmp i :: rs) = some (tA i :: vs) := fun vs hvs => by simp only [resVals, hvs]
     split at hx
     ·rename_i p r' hi hr
      injection hx with hx
      rw [hi] at htr
      exact fin hr hx.symm hv (FR.keep htr hk)
     ·rename_i n s' l r' hi hr
      injection hx with hx
      rw [hi] at htr
      exact fin hr hx.symm hv (OwnAt.keep htr hk (fun _ _ => rfl))
     ·cases hx
   | cell i m =>
     cases m with
     | none =>
       simp only [resW] at hx
       split at hx
       ·rename_i bs r' hi hr
        have htr := s.tr i
        rw [hi] at htr
        obtain ⟨b, ca, g1, g2, g3, g4, g5⟩ := htr
        have hv : 0 < ca.length → ∀ vs, resVals tA h rs = some vs → resVals tA h (.cell i none :: rs) = some (ca.getD 0 Go.undef :: vs) := fun h0 vs hvs => by
         simp only [resVals, g2, read_one g3 h0, hvs]
        split at hx
        ·rename_i p hc
         injection hx with hx
         obtain ⟨q1, q2⟩ := cellC_ok hc
         have := g5 0 q1
         rw [q2] at this
         exact fin hr hx.symm (hv (by omega)) (FR.keep this hk)
        ·rename_i n s' l hc
         injection hx with hx
         obtain ⟨q1, q2⟩ := cellC_ok hc
         have := g5 0 q1
         rw [q2] at this
         exact fin hr hx.symm (hv (by omega)) (OwnAt.keep this hk (fun _ _ => rfl))
        ·cases hx
       ·cases hx
     | some m =>
       simp only [resW] at hx
       split at hx
       ·rename_i bs r' hi hr
        have htr := s.tr i
        rw [hi] at htr
        obtain ⟨b, ca, g1, g2, g3, g4, g5⟩ := htr
        split at hx
        ·rename_i hle
         rw [Option.map_eq_some_iff] at hx
         obtain ⟨l, hl, hx⟩ := hx
         have hv : ∀ vs, resVals tA h rs = some vs → resVals tA h (.cell i (some m) :: rs) = some (.agg ((ca.drop 0).take m).toArray :: vs) := fun vs hvs => by
          simp only [resVals, g2, read_many g3 (show 0 + m ≤ ca.length by omega), hvs]
         refine fin hr hx.symm hv ?_
         have hcv : ∀ j, j < (bs.map frz).length → CVR (fun _ => none) h N j ((bs.map frz).getD j .gone) (ca.getD j Go.undef) := by
          intro j hj
          rw [List.length_map] at hj
          have e : (bs.map frz).getD j .gone = frz (bs.getD j .gone) := by simp [List.getD, hj]
          rw [e]
          exact frz_cvr (N := NF M β) (fun b' hb' => .inr ⟨i, some j, hb'⟩) (g5 j hj) N (fun b' _ _ z1 _ z2 => z1 (hN b' z2)) (fun b' hb' => hC (.cell i (some m)) (by simp) j b' ⟨i, m, rfl⟩ hb')
         obtain ⟨q1, q2⟩ := unv_fr (cs := bs.map frz) (off := 0) (m := m) (by simpa using g4) hcv (by simpa using hle) (by simpa using hl)
         exact frs_agg (frs_of q1 (by omega) (by simpa using q2))
        ·cases hx
       ·cases hx
theorem outsW_at : ∀ {avs : List AV} {body : WCode} {j : Nat} {outs : List AV}, outsW body t j avs = some outs → outs.length = avs.length ∧ ∀ (q : Nat) ao, outs[q]? = some ao →
 (∃ p, avs[q]? = some (.v p) ∧ ∃ p', ao = .v p') ∨ (noDst (j + q) body.erase = true ∧ ((∃ cs cs', avs[q]? = some (.box cs') ∧ ao = .box cs ∧ t (j + q) = .box cs) ∨ (∃ n s cs n' s' cs', avs[q]? = some (.own n' s' cs') ∧ ao = .own n s cs ∧ t (j + q) = .own n s cs) ∨
  ∃ f caps f' caps', avs[q]? = some (.clo f caps) ∧ ao = .clo f' caps' ∧ t (j + q) = .clo f' caps' ∧ sameCaps caps caps' = true))
 | [], body, j, outs, hx => by simp only [outsW] at hx; injection hx with hx; subst hx; simp
 | a :: l, body, j, outs, hx => by
   have step : ∀ {r : List AV} {x : AV}, outsW body t (j + 1) l = some r → outs = x :: r → ((∃ p, a = .v p ∧ ∃ p', x = .v p') ∨ (noDst j body.erase = true ∧ ((∃ cs cs', a = .box cs' ∧ x = .box cs ∧ t j = .box cs) ∨ (∃ n s cs n' s' cs', a = .own n' s' cs' ∧ x = .own n s cs ∧ t j = .own n s cs) ∨
    ∃ f caps f' caps', a = .clo f caps ∧ x = .clo f' caps' ∧ t j = .clo f' caps' ∧ sameCaps caps caps' = true))) → outs.length = (a :: l).length ∧ ∀ (q : Nat) ao, outs[q]? = some ao →
      (∃ p, (a :: l)[q]? = some (.v p) ∧ ∃ p', ao = .v p') ∨ (noDst (j + q) body.erase = true ∧ ((∃ cs cs', (a :: l)[q]? = some (.box cs') ∧ ao = .box cs ∧ t (j + q) = .box cs) ∨ (∃ n s cs n' s' cs', (a :: l)[q]? = some (.own n' s' cs') ∧ ao = .own n s cs ∧ t (j + q) = .own n s cs) ∨
       ∃ f caps f' caps', (a :: l)[q]? = some (.clo f caps) ∧ ao = .clo f' caps' ∧ t (j + q) = .clo f' caps' ∧ sameCaps caps caps' = true)) := by
    intro r x hr he hc
    subst he
    obtain ⟨i1, i2⟩ := outsW_at hr
    refine ⟨by simp [i1], fun q ao hq => ?_⟩
    cases q with
    | zero =>
      simp only [List.getElem?_cons_zero, Option.some.injEq] at hq
      subst hq
      simpa using hc
    | succ q =>
      have := i2 q ao (by simpa using hq)
      rw [show j + 1 + q = j + (q + 1) from by omega] at this
      simpa using this
   cases a with
   | v p =>
     simp only [outsW, Option.map_eq_some_iff] at hx
     obtain ⟨r, hr, hx⟩ := hx
     exact step hr hx.symm (.inl ⟨p, rfl, _, rfl⟩)
   | box cs0 =>
     simp only [outsW] at hx
     split at hx
     ·rename_i hn
      split at hx
      ·rename_i cs r h1 h2
       injection hx with hx
       exact step h2 hx.symm (.inr ⟨hn, .inl ⟨cs, cs0, rfl, rfl, h1⟩⟩)
      ·cases hx
     ·cases hx
   | own n0 s0 cs0 =>
     simp only [outsW] at hx
     split at hx
     ·rename_i hn
      split at hx
      ·rename_i n s cs r h1 h2
       injection hx with hx
       exact step h2 hx.symm (.inr ⟨hn, .inr (.inl ⟨n, s, cs, n0, s0, cs0, rfl, rfl, h1⟩)⟩)
      ·cases hx
     ·cases hx
   | clo f caps =>
     simp only [outsW] at hx
     split at hx
     ·rename_i hn
      split at hx
      ·rename_i f' caps' r h1 h2
       split at hx
       ·rename_i hs
        injection hx with hx
        exact step h2 hx.symm (.inr ⟨hn, .inr (.inr ⟨f, caps, f', caps', rfl, rfl, h1, hs⟩)⟩)
       ·cases hx
      ·cases hx
     ·cases hx
theorem houtsW_at : ∀ {hids : List (List CV)} {i : Nat} {houts : List (List CV)}, houtsW t i hids = some houts → ∀ (q : Nat) cs, houts[q]? = some cs → t (hidB + (i + q)) = .hbox cs
 | [], i, houts, hx => by simp only [houtsW] at hx; injection hx with hx; subst hx; simp
 | a :: l, i, houts, hx => by
   simp only [houtsW] at hx
   split at hx
   ·rename_i cs r h1 h2
    injection hx with hx; subst hx
    intro q cs' hq
    cases q with
    | zero =>
      simp only [List.getElem?_cons_zero, Option.some.injEq] at hq
      subst hq
      simpa using h1
    | succ q =>
      have := houtsW_at h2 q cs' (by simpa using hq)
      rw [show i + 1 + q = i + (q + 1) from by omega] at this
      exact this
   ·cases hx
theorem sameCaps_hid : ∀ {l l' : List (Nat ⊕ PV)} {x k : Nat}, sameCaps l l' = true → l'[x]? = some (Sum.inl k) → hidB ≤ k
 | [], [], x, k, _, hx => by simp at hx
 | [], _ :: _, x, k, hs, _ => by simp [sameCaps] at hs
 | .inl a :: l, [], x, k, hs, _ => by simp [sameCaps] at hs
 | .inr a :: l, [], x, k, hs, _ => by simp [sameCaps] at hs
 | .inl a :: l, .inl b :: l', 0, k, hs, hx => by
   simp only [sameCaps, Bool.and_eq_true, beq_iff_eq, decide_eq_true_eq] at hs
   simp only [List.getElem?_cons_zero, Option.some.injEq, Sum.inl.injEq] at hx
   omega
 | .inl a :: l, .inl b :: l', x + 1, k, hs, hx => by
   simp only [sameCaps, Bool.and_eq_true] at hs
   exact sameCaps_hid hs.2 (by simpa using hx)
 | .inl a :: l, .inr b :: l', x, k, hs, hx => by simp [sameCaps] at hs
 | .inr a :: l, .inl b :: l', x, k, hs, hx => by simp [sameCaps] at hs
 | .inr a :: l, .inr b :: l', 0, k, hs, hx => by simp at hx
 | .inr a :: l, .inr b :: l', x + 1, k, hs, hx => by
   simp only [sameCaps] at hs
   exact sameCaps_hid hs (by simpa using hx)
theorem leave_sound {res : List ARes} {body : WCode} {avs : List AV} {hids : List (List CV)} {r : RW} {argsA : List Value} (hx : leaveW res body avs hids t = some r) (s : SR M β h t tA) (hle : avs.length ≤ hidB) (hdst : ∀ j, noDst j body.erase = true → tA j = argT argsA j) :
 ∃ (v : Value) (β' : Bt) (p : Option Nat → Option Nat) (X : Nat → Prop), resVal tA h res = some v ∧ r.2.1.length = avs.length ∧ SR (fun b => M b ∨ X b) β' h (outTT r.2.1 r.2.2) (argT argsA) ∧ (∀ c b, p c = some b → X b ∧ ¬ M b) ∧ (∀ c c' b, p c = some b → p c' = some b → c = c') ∧
   (∀ b, X b → ∃ k c, β k c = some b) ∧ (∀ k c b, β' k c = some b → β k c = some b) ∧ ResR p h (NF (fun b => M b ∨ X b) β') (resTV r.1) v ∧
   (∀ (j f : Nat) (caps : List (Nat ⊕ PV)), avs[j]? = some (AV.clo f caps) → ∃ (f' : Nat) (caps' : List (Nat ⊕ PV)), r.2.1[j]? = some (AV.clo f' caps') ∧ sameCaps caps caps' = true) := by
 unfold leaveW at hx
 split at hx
 ·rename_i hok
  obtain ⟨nd, hidx⟩ := resOk_at hok
  split at hx
  ·rename_i cs outs houts h1 h2 h3
   injection hx with hx; subst hx
   simp only
   obtain ⟨ol, oa⟩ := outsW_at h2
   have ha := houtsW_at h3
   let X : Nat → Prop := fun b => ∃ q, keyB β (res.getD q (.tmp 0)) = some b ∧ q < res.length
   let β' := keepRes β res
   have hsub : ∀ k c b, β' k c = some b → β k c = some b ∧ k ∉ res.map resIdx := by
    intro k c b hb
    simp only [β', keepRes] at hb
    split at hb
    ·cases hb
    ·rename_i hk; exact ⟨hb, hk⟩
   have keyof : ∀ r b, keyB β r = some b → ∃ c, β (resIdx r) c = some b := by
    intro r b hb
    cases r with
    | tmp i => exact ⟨_, hb⟩
    | cell i m => cases m with
      | none => exact ⟨_, hb⟩
      | some m => cases hb
   have hXo : ∀ b, X b → ∃ k c, β k c = some b ∧ k ∈ res.map resIdx := by
    rintro b ⟨q, hq, hl⟩
    obtain ⟨c, hc⟩ := keyof _ _ hq
    exact ⟨_, c, hc, List.mem_map.2 ⟨_, getD_mem' hl, rfl⟩⟩
   have hN : ∀ b, NF (fun b => M b ∨ X b) β' b → NF M β b := by
    rintro b ((hm | hxx) | ⟨k, c, hk⟩)
    ·exact .inl hm
    ·obtain ⟨k, c, hk, _⟩ := hXo b hxx
     exact .inr ⟨k, c, hk⟩
    ·exact .inr ⟨k, c, (hsub _ _ _ hk).1⟩
   have hC : ∀ r ∈ res, ∀ j b, (∃ i m, r = .cell i (some m)) → β (resIdx r) (some j) = some b → ¬ NF (fun b => M b ∨ X b) β' b := by
    rintro r hr j b ⟨i, m, rfl⟩ hb
    rintro ((hm | ⟨q, hq, hl⟩) | ⟨k, c, hk⟩)
    ·exact (s.lt _ _ _ hb).2 hm
    ·obtain ⟨c, hc⟩ := keyof _ _ hq
     obtain ⟨e1, e2⟩ := s.inj _ _ _ _ _ hb hc
     have hrq : res.getD q (.tmp 0) = .cell i (some m) := by
      obtain ⟨x, hx, hxe⟩ := List.getElem_of_mem hr
      have e3 : (res.map resIdx)[q]? = some (resIdx (.cell i (some m))) := by
       rw [List.getElem?_map, getD_lt (d := .tmp 0) hl, Option.map_some]; simp only [e1]
      have e4 : (res.map resIdx)[x]? = some (resIdx (.cell i (some m))) := by
       rw [List.getElem?_map, List.getElem?_eq_getElem hx, Option.map_some, hxe]
      have := nodup_idx nd e3 e4
      subst this
      rw [List.getD_eq_getElem?_getD, List.getElem?_eq_getElem hx, Option.getD_some, hxe]
     rw [hrq] at hq
     cases hq
    ·obtain ⟨g1, g2⟩ := hsub _ _ _ hk
     have := (s.inj _ _ _ _ _ hb g1).1
     subst this
     exact g2 (List.mem_map.2 ⟨_, hr, rfl⟩)
   obtain ⟨vs, w1, w2, w3, w4⟩ := resW_ok s h1 hN hC
   let p : Option Nat → Option Nat := fun c => match c with
    | none => if res.length = 1 then keyB β (res.getD 0 (.tmp 0)) else none
    | some q => if res.length ≠ 1 ∧ q < res.length then keyB β (res.getD q (.tmp 0)) else none
   have hp : ∀ c b, p c = some b → ∃ q, q < res.length ∧ keyB β (res.getD q (.tmp 0)) = some b ∧ (c = none → res.length = 1) ∧ (∀ q', c = some q' → q = q' ∧ res.length ≠ 1) := by
    intro c b hb
    cases c with
    | none =>
      simp only [p] at hb
      split at hb
      ·exact ⟨0, by omega, hb, fun _ => by assumption, by simp⟩
      ·cases hb
    | some q =>
      simp only [p] at hb
      split at hb
      ·rename_i hc
       exact ⟨q, hc.2, hb, by simp, fun q' hq' => by injection hq' with hq'; exact ⟨hq', hc.1⟩⟩
      ·cases hb
   have keyinj : ∀ q q' b, q < res.length → q' < res.length → keyB β (res.getD q (.tmp 0)) = some b → keyB β (res.getD q' (.tmp 0)) = some b → q = q' := by
    intro q q' b l1 l2 k1 k2
    obtain ⟨c1, z1⟩ := keyof _ _ k1
    obtain ⟨c2, z2⟩ := keyof _ _ k2
    have e := (s.inj _ _ _ _ _ z1 z2).1
    have e3 : (res.map resIdx)[q]? = some (resIdx (res.getD q (.tmp 0))) := by rw [List.getElem?_map, getD_lt (d := .tmp 0) l1, Option.map_some]
    have e4 : (res.map resIdx)[q']? = some (resIdx (res.getD q (.tmp 0))) := by rw [List.getElem?_map, getD_lt (d := .tmp 0) l2, Option.map_some]; simp only [e]
    exact nodup_idx nd e3 e4
   have hcv : ∀ (γ : Option Nat → Option Nat) q, q < cs.length → (∀ n s l, cs.getD q .gone = .o n s l → γ (some q) = keyB β (res.getD q (.tmp 0))) → CVR γ h (NF (fun b => M b ∨ X b) β') q (cs.getD q .gone) (vs.getD q Go.undef) := by
    intro γ q hq hγ
    have := w4 q hq
    cases hcq : cs.getD q .gone with
    | v p => rw [hcq] at this; exact this
    | gone => trivial
    | o n s l =>
      rw [hcq] at this
      simp only [CVR]
      rw [hγ n s l hcq]
      exact this
   have hres : ∃ v, resVal tA h res = some v ∧ ResR p h (NF (fun b => M b ∨ X b) β') (resTV cs) v := by
    match cs, w2, w3, w4, hcv with
    | [], w2, w3, w4, hcv =>
      have : vs = [] := List.length_eq_zero_iff.1 (by simpa using w2)
      subst this
      refine ⟨.tuple #[], by simp only [resVal, w1], ?_⟩
      simp only [ResR, resTV, isRoot, if_true]
      exact ⟨#[], rfl, rfl, by simp⟩
    | [c], w2, w3, w4, hcv =>
      match vs, w2, w4, w1 with
      | [u], _, w4, w1 =>
        refine ⟨u, by simp only [resVal, w1], ?_⟩
        have := w4 0 (by simp)
        simp only [List.getD_cons_zero] at this
        have hr1 : res.length = 1 := by simpa using w3.symm
        cases c with
        | v q => simp only [ResR, resTV, tvC, isRoot]; exact ⟨this, trivial⟩
        | gone => simp only [ResR, resTV, tvC, isRoot]; exact ⟨trivial, trivial⟩
        | o n s l =>
          simp only [ResR, resTV, tvC, isRoot, if_true]
          show OwnAt _ _ (p none) _ _ _ _
          simp only [p, hr1, if_true]
          exact this
      | [], w2, _, _ => simp at w2
      | _ :: _ :: _, w2, _, _ => simp at w2
    | c1 :: c2 :: cs, w2, w3, w4, hcv =>
      match vs, w2, w4, w1, hcv with
      | [], w2, _, _, _ => simp at w2
      | [_], w2, _, _, _ => simp at w2
      | v1 :: v2 :: vs, w2, w4, w1, hcv =>
        refine ⟨.tuple (v1 :: v2 :: vs).toArray, by simp only [resVal, w1], ?_⟩
        have hr1 : res.length ≠ 1 := by simp only [List.length_cons] at w3; omega
        simp only [ResR, resTV, isRoot, if_true]
        refine ⟨_, rfl, by simpa using w2.symm, fun q hq => ?_⟩
        have := hcv p q hq (fun n s l _ => by
         simp only [p]
         rw [if_pos ⟨hr1, by rw [← w3]; exact hq⟩])
        simpa using this
   obtain ⟨v, hv1, hv2⟩ := hres
   refine ⟨v, β', p, X, hv1, ol, ?_, ?_, ?_, fun b hb => ?_, fun k c b hb => (hsub _ _ _ hb).1, hv2, ?_⟩
   ·
    have hkk : Keeps h (NF M β) h (NF (fun b => M b ∨ X b) β') := Keeps.less hN
    have notres : ∀ i, (∃ av, avs[i]? = some av ∧ ∀ p, av ≠ .v p) ∨ (avs[i]? = none ∧ hidB ≤ i) → i ∉ res.map resIdx := by
     intro i hi hm
     obtain ⟨r, hr, e⟩ := List.mem_map.1 hm
     rcases hidx r hr with ⟨p, hp⟩ | ⟨hp, hl⟩
     ·rw [e] at hp
      rcases hi with ⟨av, h1, h2⟩ | ⟨h1, _⟩
      ·rw [h1] at hp; injection hp with hp; exact h2 p hp
      ·rw [h1] at hp; cases hp
     ·rw [e] at hp hl
      rcases hi with ⟨av, h1, _⟩ | ⟨_, h2⟩
      ·rw [h1] at hp; cases hp
      ·omega
    have bsame : ∀ i, i ∉ res.map resIdx → β' i = β i := by
     intro i hi
     funext c
     simp only [β', keepRes, if_neg hi]
    refine ⟨fun i => ?_, fun k c k' c' b z1 z2 => s.inj _ _ _ _ _ (hsub _ _ _ z1).1 (hsub _ _ _ z2).1, fun k c b hb => ?_, ?_⟩
    ·unfold outTT
     rw [outTT'_at, if_pos (Nat.zero_le _), Nat.sub_zero]
     cases hao : outs[i]? with
     | some ao =>
       simp only
       rcases oa i ao hao with ⟨q, _, q', rfl⟩ | ⟨hnd, hcase⟩
       ·trivial
       ·rw [Nat.zero_add] at hnd hcase
        have hta := hdst i hnd
        have htr := s.tr i
        rw [hta] at htr
        rcases hcase with ⟨cs1, cs2, e1, rfl, e3⟩ | ⟨n, s1, cs1, n', s2, cs2, e1, rfl, e3⟩ | ⟨f, caps, f', caps', e1, rfl, e3, e4⟩
        ·rw [e3] at htr
         simp only [tvO, tvA, TR] at htr ⊢
         rw [bsame i (notres i (.inl ⟨_, e1, by simp⟩))]
         exact htr.keep hkk (fun _ _ _ => rfl)
        ·rw [e3] at htr
         simp only [tvO, tvA, TR] at htr ⊢
         rw [bsame i (notres i (.inl ⟨_, e1, by simp⟩))]
         exact htr.keep hkk (fun _ _ _ => rfl)
        ·rw [e3] at htr
         obtain ⟨as, g1, g2, g3⟩ := htr
         refine ⟨as, g1, g2, fun j hj => ?_⟩
         have := g3 j hj
         have hcj : caps'[j]? = some (caps'.getD j (.inl 0)) := getD_lt hj
         cases hc : caps'.getD j (.inl 0) with
         | inr q => rw [hc] at this; exact FR.keep this hkk
         | inl k =>
           rw [hc] at this hcj
           have hk := sameCaps_hid e4 hcj
           obtain ⟨b, z1, z2⟩ := this
           refine ⟨b, ?_, z2⟩
           rw [bsame k]
           ·exact z1
           ·intro hm
            obtain ⟨r, hr, e⟩ := List.mem_map.1 hm
            rcases hidx r hr with ⟨q, hq⟩ | ⟨_, hl⟩
            ·rw [e] at hq
             have := (List.getElem?_eq_some_iff.1 hq).1
             omega
            ·omega
     | none =>
       simp only
       rw [hidT_at]
       split
       ·rename_i hge
        cases hh : houts[i - hidB]? with
        | none => trivial
        | some cs1 =>
          have e := ha _ cs1 hh
          rw [show hidB + (0 + (i - hidB)) = i from by omega] at e
          have htr := s.tr i
          rw [e] at htr
          simp only [TR] at htr ⊢
          have hav : avs[i]? = none := by
           rw [List.getElem?_eq_none_iff]; omega
          rw [bsame i (notres i (.inr ⟨hav, hge⟩))]
          obtain ⟨b, ca, q1, q2, q3, q4⟩ := htr
          exact ⟨b, ca, q1, q2, q3, fun j hj => (q4 j hj).keep hkk (fun _ _ => rfl)⟩
       ·trivial
    ·obtain ⟨g1, g2⟩ := hsub _ _ _ hb
     refine ⟨(s.lt _ _ _ g1).1, ?_⟩
     rintro (hm | hxx)
     ·exact (s.lt _ _ _ g1).2 hm
     ·obtain ⟨k', c', z1, z2⟩ := hXo b hxx
      have := (s.inj _ _ _ _ _ g1 z1).1
      subst this
      exact g2 z2
    ·rintro b (hm | hxx)
     ·exact s.mlt b hm
     ·obtain ⟨k', c', z1, _⟩ := hXo b hxx
      exact (s.lt _ _ _ z1).1
   ·intro c b hb
    obtain ⟨q, q1, q2, _, _⟩ := hp c b hb
    obtain ⟨c', hc'⟩ := keyof _ _ q2
    exact ⟨⟨q, q2, q1⟩, (s.lt _ _ _ hc').2⟩
   ·intro c c' b hb hb'
    obtain ⟨q, q1, q2, q3, q4⟩ := hp c b hb
    obtain ⟨q', r1, r2, r3, r4⟩ := hp c' b hb'
    have := keyinj q q' b q1 r1 q2 r2
    subst this
    cases c with
    | none => cases c' with
      | none => rfl
      | some x => exact absurd (q3 rfl) (r4 x rfl).2
    | some x => cases c' with
      | none => exact absurd (r3 rfl) (q4 x rfl).2
      | some y => rw [← (q4 x rfl).1, ← (r4 y rfl).1]
   ·obtain ⟨k, c, z1, _⟩ := hXo b hb
    exact ⟨k, c, z1⟩
   ·intro j f caps hj
    have hlt : j < outs.length := by rw [ol]; exact (List.getElem?_eq_some_iff.1 hj).1
    have hoj : outs[j]? = some outs[j] := List.getElem?_eq_getElem hlt
    rcases oa j _ hoj with ⟨q, e1, _⟩ | ⟨_, ⟨cs1, cs2, e1, _⟩ | ⟨n, s1, cs1, n', s2, cs2, e1, _⟩ | ⟨f2, caps2, f', caps', e1, e2, _, e4⟩⟩
    ·rw [hj] at e1; cases e1
    ·rw [hj] at e1; cases e1
    ·rw [hj] at e1; cases e1
    ·rw [hj] at e1
     injection e1 with e1
     injection e1 with e1 e5
     subst e1 e5
     exact ⟨f', caps', by rw [hoj, e2], e4⟩
  ·cases hx
 ·cases hx
end
end Go.Wb
namespace Go.Wb
open Go
def EnvSim (EW : EnvW) (EA : Env) : Prop :=
 EA "@dyn" = some (.dyn EW.tbl) ∧ ∀ f wf, EW.fn f = some wf → (∃ res body, wf = .code res body ∧ EA f = some (.code res body.erase)) ∨ ∃ g, wf = .prim g ∧ CallSim (fun f' avs hids => if f' = f then g avs hids else none) (callA EA)
section
variable {EW : EnvW} {EA : Env}
theorem runW_sound (hE : EnvSim EW EA) : ∀ (n : Nat), CallSim (callWN EW n) (callA EA) ∧
 ∀ (c : WCode) (t : TT) (e : AExit) (t' : TT), runWN EW n c t = some (e, t') → ∀ (M : Nat → Prop) (β : Bt) (h : Heap) (tA : T), SR M β h t tA →
   ∃ tA' h' β', runA EA c.erase tA h = some (e, tA', h') ∧ Fr β h β' h' ∧ SR M β' h' t' tA' := by
 intro n
 induction n with
 | zero =>
   refine ⟨fun f avs hids res outs houts hx => ?_, fun c t e t' hx => ?_⟩
   ·simp only [callWN] at hx; cases hx
   ·simp only [runWN] at hx; cases hx
 | succ n ih =>
   obtain ⟨ihc, ihr⟩ := ih
   constructor
   ·intro f avs hids res outs houts hx M β h argsA hlen hle s
    simp only [callWN] at hx
    split at hx
    ·cases hx
    ·rename_i g hg
     rcases hE.2 f _ hg with ⟨r, b, e, _⟩ | ⟨g', e, hp⟩
     ·cases e
     ·injection e with e; subst e
      exact hp f avs hids res outs houts (by simp only [if_true]; exact hx) M β h argsA hlen hle s
    ·rename_i rs body hb
     rcases hE.2 f _ hb with ⟨r, b, e, hA⟩ | ⟨g', e, _⟩
     ·injection e with e1 e2
      subst e1 e2
      have fin : ∀ e t1, runWN EW n body (argTT avs hids) = some (e, t1) → (e = .ret ∨ e = .normal) → leaveW rs body avs hids t1 = some (res, outs, houts) →
       ∃ (v : Value) (h' : Heap) (β' : Bt) (p : Option Nat → Option Nat) (X : Nat → Prop), callA EA f argsA h = some (v, h') ∧ outs.length = avs.length ∧ Fr β h β' h' ∧ SR (fun b => M b ∨ X b) β' h' (outTT outs houts) (argT argsA) ∧ (∀ c b, p c = some b → X b ∧ ¬ M b) ∧ (∀ c c' b, p c = some b → p c' = some b → c = c') ∧
         (∀ b, X b → h.length ≤ b ∨ ∃ k c, β k c = some b) ∧ ResR p h' (NF (fun b => M b ∨ X b) β') (resTV res) v ∧
         (∀ (j f : Nat) (caps : List (Nat ⊕ PV)), avs[j]? = some (AV.clo f caps) → ∃ (f' : Nat) (caps' : List (Nat ⊕ PV)), outs[j]? = some (AV.clo f' caps') ∧ sameCaps caps caps' = true) := by
       intro e t1 hr he hl
       obtain ⟨tA', h', β1, q1, q2, q3⟩ := ihr body _ _ _ hr M β h _ s
       obtain ⟨v, β', p, X, g1, g2, g3, g4, g5, g6, g7, g8, g9⟩ := leave_sound hl q3 hle (fun j hj => runA_dst q1 hj)
       refine ⟨v, h', β', p, X, ?_, g2, ⟨q2.len, q2.same, fun k c b hb => q2.own k c b (g7 _ _ _ hb)⟩, g3, g4, g5, ?_, g8, g9⟩
       ·rw [callA_code hA, q1]
        rcases he with rfl | rfl <;> simp only [leave, g1, Option.map_some]
       ·intro b hb
        obtain ⟨k, c, hk⟩ := g6 b hb
        exact q2.own k c b hk
      split at hx
      ·rename_i t1 hr
       exact fin _ t1 hr (.inl rfl) hx
      ·rename_i t1 hr
       exact fin _ t1 hr (.inr rfl) hx
      ·cases hx
     ·cases e
   ·intro c t e t' hx M β h tA s
    cases c with
    | skip =>
      simp only [runWN] at hx
      injection hx with hx; injection hx with e1 e2; subst e1 e2
      exact ⟨tA, h, β, runA_skip, .refl, s⟩
    | ops l =>
      simp only [runWN, Option.map_eq_some_iff] at hx
      obtain ⟨t1, hx, hy⟩ := hx
      injection hy with e1 e2; subst e1 e2
      obtain ⟨tA', h', β', q1, q2, q3⟩ := execW_sound ihc hE.1 s hx
      exact ⟨tA', h', β', by simp only [WCode.erase]; rw [runA_ops, q1]; rfl, q2, q3⟩
    | drawn l ps =>
      simp only [runWN] at hx
      split at hx
      ·rename_i hps
       have hps : ps = [] := by simpa using hps
       subst hps
       rw [Option.map_eq_some_iff] at hx
       obtain ⟨t1, hx, hy⟩ := hx
       injection hy with e1 e2; subst e1 e2
       obtain ⟨tA', h', β', q1, q2, q3⟩ := execW_sound ihc hE.1 s hx
       refine ⟨tA', h', β', ?_, q2, q3⟩
       simp only [WCode.erase]
       rw [runA_drawn]
       obtain ⟨G, L, hl⟩ := execLog_ops q1
       have : execDrawn (callA EA) (l.map WOper.a) [] tA h = some (tA', h') := by
        unfold execDrawn
        rw [hl]
        exact if_pos trivial
       rw [this]; rfl
      ·rw [Option.map_eq_some_iff] at hx
       obtain ⟨t1, hx, hy⟩ := hx
       injection hy with e1 e2; subst e1 e2
       obtain ⟨tA', h', β', q1, q2, q3⟩ := drawW_sound ihc hE.1 s hx
       exact ⟨tA', h', β', by simp only [WCode.erase]; rw [runA_drawn, q1]; rfl, q2, q3⟩
    | seq a b =>
      simp only [runWN] at hx
      split at hx
      ·rename_i t1 hr
       obtain ⟨tA1, h1, β1, q1, q2, q3⟩ := ihr _ _ _ _ hr M β h tA s
       obtain ⟨tA2, h2, β2, r1, r2, r3⟩ := ihr _ _ _ _ hx M β1 h1 tA1 q3
       refine ⟨tA2, h2, β2, ?_, q2.trans r2, r3⟩
       simp only [WCode.erase]
       rw [runA_seq, q1]
       exact r1
      ·rename_i hne
       obtain ⟨tA1, h1, β1, q1, q2, q3⟩ := ihr _ _ _ _ hx M β h tA s
       refine ⟨tA1, h1, β1, ?_, q2, q3⟩
       simp only [WCode.erase]
       rw [runA_seq, q1]
       cases e with
       | normal => exact (hne t' hx).elim
       | exit i => rfl
       | ret => rfl
    | cond c x y =>
      simp only [runWN] at hx
      simp only [WCode.erase]
      split at hx
      ·rename_i hc
       obtain ⟨tA1, h1, β1, q1, q2, q3⟩ := ihr _ _ _ _ hx M β h tA s
       exact ⟨tA1, h1, β1, by rw [runA_cond, (ev_sc s hc).1]; exact q1, q2, q3⟩
      ·rename_i hc
       obtain ⟨tA1, h1, β1, q1, q2, q3⟩ := ihr _ _ _ _ hx M β h tA s
       exact ⟨tA1, h1, β1, by rw [runA_cond, (ev_sc s hc).1]; exact q1, q2, q3⟩
      ·cases hx
    | block id b =>
      simp only [runWN] at hx
      simp only [WCode.erase]
      split at hx
      ·rename_i i t1 hr
       obtain ⟨tA1, h1, β1, q1, q2, q3⟩ := ihr _ _ _ _ hr M β h tA s
       split at hx
       ·rename_i hi
        injection hx with hx; injection hx with e1 e2; subst e1 e2
        exact ⟨tA1, h1, β1, by rw [runA_block, q1]; simp only [hi, if_true], q2, q3⟩
       ·rename_i hi
        injection hx with hx; injection hx with e1 e2; subst e1 e2
        exact ⟨tA1, h1, β1, by rw [runA_block, q1]; simp only [hi, if_false], q2, q3⟩
      ·rename_i hne
       obtain ⟨tA1, h1, β1, q1, q2, q3⟩ := ihr _ _ _ _ hx M β h tA s
       refine ⟨tA1, h1, β1, ?_, q2, q3⟩
       rw [runA_block, q1]
       cases e with
       | exit i => exact (hne i t' hx).elim
       | normal => rfl
       | ret => rfl
    | loop vs b =>
      simp only [runWN] at hx
      simp only [WCode.erase]
      split at hx
      ·rename_i t1 hr
       obtain ⟨tA1, h1, β1, q1, q2, q3⟩ := ihr _ _ _ _ hr M β h tA (s.restr vs)
       obtain ⟨tA2, h2, β2, r1, r2, r3⟩ := ihr _ _ _ _ hx M β1 h1 tA1 q3
       refine ⟨tA2, h2, β2, ?_, q2.trans r2, r3⟩
       rw [runA_loop, q1]
       exact r1
      ·rename_i hne
       obtain ⟨tA1, h1, β1, q1, q2, q3⟩ := ihr _ _ _ _ hx M β h tA (s.restr vs)
       refine ⟨tA1, h1, β1, ?_, q2, q3⟩
       rw [runA_loop, q1]
       cases e with
       | normal => exact (hne t' hx).elim
       | exit i => rfl
       | ret => rfl
    | exit vs id =>
      simp only [runWN] at hx
      injection hx with hx; injection hx with e1 e2; subst e1 e2
      exact ⟨tA, h, β, runA_exit, .refl, s.restr vs⟩
    | ret vs =>
      simp only [runWN] at hx
      injection hx with hx; injection hx with e1 e2; subst e1 e2
      exact ⟨tA, h, β, runA_ret, .refl, s.restr vs⟩
    | cut vs b =>
      simp only [runWN] at hx
      exact ihr _ _ _ _ hx M β h tA (s.restr vs)
def LeW (c c' : CallFW) : Prop := ∀ f avs hids r, c f avs hids = some r → c' f avs hids = some r
theorem evalW_mono {c c' : CallFW} (hc : LeW c c') {tbl : List (Nat × String)} {o : WOper} {t : TT} {r : TV × TT} (hx : evalW tbl c o t = some r) : evalW tbl c' o t = some r := by
 unfold evalW at hx ⊢
 split at hx
 ·split at hx
  ·rename_i hf
   rw [if_pos hf]
   split at hx
   ·unfold dynW at hx ⊢
    split at hx
    ·cases hx
    ·split at hx
     ·cases hx
     ·split at hx
      ·cases hx
      ·split at hx
       ·cases hx
       ·simp only at hx ⊢
        split at hx
        ·rename_i hcond
         rw [if_pos hcond]
         split at hx
         ·cases hx
         ·split at hx
          ·rename_i r' hr
           rw [hc _ _ _ _ hr]
           exact hx
          ·cases hx
        ·cases hx
   ·cases hx
  ·rename_i hf
   rw [if_neg hf]
   unfold callW at hx ⊢
   split at hx
   ·cases hx
   ·split at hx
    ·rename_i hcond
     rw [if_pos hcond]
     split at hx
     ·cases hx
     ·split at hx
      ·rename_i r' hr
       rw [hc _ _ _ _ hr]
       exact hx
      ·cases hx
    ·cases hx
 ·exact hx
theorem stepW_mono {c c' : CallFW} (hc : LeW c c') {tbl : List (Nat × String)} {o : WOper} {t : TT} {r : TT} (hx : stepW tbl c o t = some r) : stepW tbl c' o t = some r := by
 unfold stepW at hx ⊢
 split at hx
 ·split at hx
  ·rename_i v t' hev
   rw [evalW_mono hc hev]
   exact hx
  ·cases hx
 ·exact hx
 ·cases hx
theorem execW_mono {c c' : CallFW} (hc : LeW c c') {tbl : List (Nat × String)} : ∀ {l : List WOper} {t : TT} {r : TT}, execW tbl c l t = some r → execW tbl c' l t = some r
 | [], _, _, hx => hx
 | o :: l, t, r, hx => by
   simp only [execW] at hx ⊢
   split at hx
   ·rename_i t1 hst
    rw [stepW_mono hc hst]
    exact execW_mono hc hx
   ·cases hx
theorem drawL_mono {c c' : CallFW} (hc : LeW c c') {tbl : List (Nat × String)} : ∀ {l : List WOper} {t to : TT} {st : Nat} {g : Bool} {r : TT × Nat × List Bool}, drawL tbl c l t to st g = some r → drawL tbl c' l t to st g = some r
 | [], _, _, _, _, _, hx => hx
 | o :: l, t, to, st, g, r, hx => by
   simp only [drawL] at hx ⊢
   split at hx
   ·cases hx
   ·rename_i t' hst
    rw [stepW_mono hc hst]
    rw [Option.map_eq_some_iff] at hx
    obtain ⟨y, hy, hx⟩ := hx
    simp only [drawL_mono hc hy, Option.map_some, hx]
theorem fwd_mono {c c' : CallFW} (hc : LeW c c') {tbl : List (Nat × String)} : ∀ {l : List WOper} {t to : TT} {st : Nat} {g : Bool} {r : TT × Nat × List Bool} {x : Option Nat}, drawL tbl c l t to st g = some r → fwd tbl c' l t x = fwd tbl c l t x
 | [], _, _, _, _, _, _, _ => rfl
 | o :: l, t, to, st, g, r, x, hx => by
   simp only [drawL] at hx
   split at hx
   ·cases hx
   ·rename_i t' hst
    rw [Option.map_eq_some_iff] at hx
    obtain ⟨y, hy, hx⟩ := hx
    simp only [fwd, stepW_mono hc hst, hst]
    rw [fwd_mono hc hy]
theorem fwdL_mono {c c' : CallFW} (hc : LeW c c') {tbl : List (Nat × String)} : ∀ {l : List WOper} {t to : TT} {st ct : Nat} {g : Bool} {r : TT × Nat × List Bool}, drawL tbl c l t to st g = some r → fwdL tbl c' l t ct = fwdL tbl c l t ct
 | [], _, _, _, _, _, _, _ => rfl
 | o :: l, t, to, st, ct, g, r, hx => by
   simp only [drawL] at hx
   split at hx
   ·cases hx
   ·rename_i t' hst
    rw [Option.map_eq_some_iff] at hx
    obtain ⟨y, hy, hx⟩ := hx
    simp only [fwdL, stepW_mono hc hst, hst]
    rw [fwdL_mono hc hy]
    cases adrW o t with
    | none => rfl
    | some x => simp only [fwd_mono hc hy]
theorem drawW_mono {c c' : CallFW} (hc : LeW c c') {tbl : List (Nat × String)} {l : List WOper} {ps : List (Nat × Nat)} {t r : TT} (hx : drawW tbl c l ps t = some r) : drawW tbl c' l ps t = some r := by
 unfold drawW at hx ⊢
 split at hx
 ·rename_i t' st L hd
  rw [drawL_mono hc hd]
  simp only [fwdL_mono hc hd]
  exact hx
 ·cases hx
theorem fuelW_mono (E : EnvW) : ∀ n, LeW (callWN E n) (callWN E (n + 1)) ∧ ∀ c t r, runWN E n c t = some r → runWN E (n + 1) c t = some r := by
 intro n
 induction n with
 | zero => exact ⟨fun f a b r hx => (by simp only [callWN] at hx; cases hx), fun c t r hx => (by simp only [runWN] at hx; cases hx)⟩
 | succ n ih =>
   obtain ⟨ihc, ihr⟩ := ih
   constructor
   ·intro f a b r hx
    rw [callWN] at hx ⊢
    split at hx
    ·cases hx
    ·exact hx
    ·split at hx
     ·rename_i t1 hr
      rw [ihr _ _ _ hr]
      exact hx
     ·rename_i t1 hr
      rw [ihr _ _ _ hr]
      exact hx
     ·cases hx
   ·intro c t r hx
    cases c with
    | skip => simp only [runWN] at hx ⊢; exact hx
    | exit vs id => simp only [runWN] at hx ⊢; exact hx
    | ret vs => simp only [runWN] at hx ⊢; exact hx
    | cut vs b => rw [runWN] at hx ⊢; exact ihr _ _ _ hx
    | ops l =>
      rw [runWN, Option.map_eq_some_iff] at hx ⊢
      obtain ⟨y, hy, hx⟩ := hx
      exact ⟨y, execW_mono ihc hy, hx⟩
    | drawn l ps =>
      rw [runWN] at hx ⊢
      split at hx
      ·rename_i hp
       rw [if_pos hp, Option.map_eq_some_iff]
       rw [Option.map_eq_some_iff] at hx
       obtain ⟨y, hy, hx⟩ := hx
       exact ⟨y, execW_mono ihc hy, hx⟩
      ·rename_i hp
       rw [if_neg hp, Option.map_eq_some_iff]
       rw [Option.map_eq_some_iff] at hx
       obtain ⟨y, hy, hx⟩ := hx
       exact ⟨y, drawW_mono ihc hy, hx⟩
    | seq a b =>
      rw [runWN] at hx ⊢
      split at hx
      ·rename_i t1 hr
       rw [ihr _ _ _ hr]
       exact ihr _ _ _ hx
      ·rename_i hne
       rw [ihr _ _ _ hx]
       split
       ·rename_i t1 he
        exact (hne t1 (by rw [hx]; exact he)).elim
       ·rfl
    | cond cnd x y =>
      rw [runWN] at hx ⊢
      split at hx
      ·exact ihr _ _ _ hx
      ·exact ihr _ _ _ hx
      ·cases hx
    | block id b =>
      rw [runWN] at hx ⊢
      split at hx
      ·rename_i i t1 hr
       rw [ihr _ _ _ hr]
       exact hx
      ·rename_i hne
       rw [ihr _ _ _ hx]
       split
       ·rename_i i t1 he
        exact (hne i t1 (by rw [hx]; exact he)).elim
       ·rfl
    | loop vs b =>
      rw [runWN] at hx ⊢
      split at hx
      ·rename_i t1 hr
       rw [ihr _ _ _ hr]
       exact ihr _ _ _ hx
      ·rename_i hne
       rw [ihr _ _ _ hx]
       split
       ·rename_i t1 he
        exact (hne t1 (by rw [hx]; exact he)).elim
       ·rfl
theorem runWN_le {E : EnvW} {n m : Nat} (hle : n ≤ m) {c : WCode} {t : TT} {r : AExit × TT} (hx : runWN E n c t = some r) : runWN E m c t = some r := by
 induction hle with
 | refl => exact hx
 | step _ ih => exact (fuelW_mono E _).2 _ _ _ ih
theorem callWN_le {E : EnvW} {n m : Nat} (hle : n ≤ m) {f : String} {a : List AV} {b : List (List CV)} {r : RW} (hx : callWN E n f a b = some r) : callWN E m f a b = some r := by
 induction hle with
 | refl => exact hx
 | step _ ih => exact (fuelW_mono E _).1 _ _ _ _ ih
open Classical in
noncomputable def callV (E : EnvW) : CallFW := fun f a b => if hx : ∃ n r, callWN E n f a b = some r then some (Classical.choose (Classical.choose_spec hx)) else none
open Classical in
noncomputable def runV (E : EnvW) (c : WCode) (t : TT) : Option (AExit × TT) := if hx : ∃ n r, runWN E n c t = some r then some (Classical.choose (Classical.choose_spec hx)) else none
theorem callV_iff {E : EnvW} {f : String} {a : List AV} {b : List (List CV)} {r : RW} : callV E f a b = some r ↔ ∃ n, callWN E n f a b = some r := by
 unfold callV
 constructor
 ·intro hx
  split at hx
  ·rename_i hex
   have := Classical.choose_spec (Classical.choose_spec hex)
   injection hx with hx
   rw [hx] at this
   exact ⟨_, this⟩
  ·cases hx
 ·rintro ⟨n, hn⟩
  have hex : ∃ n r, callWN E n f a b = some r := ⟨n, r, hn⟩
  rw [dif_pos hex]
  have h1 := Classical.choose_spec (Classical.choose_spec hex)
  have h2 := callWN_le (Nat.le_max_left n (Classical.choose hex)) hn
  have h3 := callWN_le (Nat.le_max_right n (Classical.choose hex)) h1
  rw [h2] at h3
  injection h3 with h3
  rw [← h3]
theorem runV_iff {E : EnvW} {c : WCode} {t : TT} {r : AExit × TT} : runV E c t = some r ↔ ∃ n, runWN E n c t = some r := by
 unfold runV
 constructor
 ·intro hx
  split at hx
  ·rename_i hex
   have := Classical.choose_spec (Classical.choose_spec hex)
   injection hx with hx
   rw [hx] at this
   exact ⟨_, this⟩
  ·cases hx
 ·rintro ⟨n, hn⟩
  have hex : ∃ n r, runWN E n c t = some r := ⟨n, r, hn⟩
  rw [dif_pos hex]
  have h1 := Classical.choose_spec (Classical.choose_spec hex)
  have h2 := runWN_le (Nat.le_max_left n (Classical.choose hex)) hn
  have h3 := runWN_le (Nat.le_max_right n (Classical.choose hex)) h1
  rw [h2] at h3
  injection h3 with h3
  rw [← h3]
theorem callV_sim (hE : EnvSim EW EA) : CallSim (callV EW) (callA EA) := by
 intro f avs hids res outs houts hx
 obtain ⟨n, hn⟩ := callV_iff.1 hx
 exact (runW_sound hE n).1 f avs hids res outs houts hn
end
end Go.Wb
namespace Go.Wb
open Go
section
variable {E : EnvW}
theorem callWN_V (n : Nat) : LeW (callWN E n) (callV E) := fun _ _ _ _ hx => callV_iff.2 ⟨n, hx⟩
theorem evalW_fin {tbl : List (Nat × String)} {o : WOper} {t : TT} {r : TV × TT} (hx : evalW tbl (callV E) o t = some r) : ∃ n, evalW tbl (callWN E n) o t = some r := by
 unfold evalW at hx
 split at hx
 ·rename_i f args hop
  split at hx
  ·rename_i hf
   split at hx
   ·rename_i x args
    have key : ∀ (g : CallFW → Option (TV × TT)), True := fun _ => trivial
    unfold dynW at hx
    split at hx
    ·cases hx
    ·rename_i f' caps hfc
     split at hx
     ·cases hx
     ·rename_i e he
      split at hx
      ·cases hx
      ·rename_i a0 ha
       split at hx
       ·cases hx
       ·rename_i ca cd hca
        simp only at hx
        split at hx
        ·rename_i hcond
         split at hx
         ·cases hx
         ·rename_i hb hbx
          split at hx
          ·rename_i r' hr
           obtain ⟨n, hn⟩ := callV_iff.1 hr
           refine ⟨n, ?_⟩
           unfold evalW
           rw [hop]
           simp only
           rw [if_pos hf]
           unfold dynW
           rw [hfc]
           simp only [he, ha, hca]
           rw [if_pos hcond]
           simp only [hbx, hn]
           exact hx
          ·cases hx
        ·cases hx
   ·cases hx
  ·rename_i hf
   unfold callW at hx
   split at hx
   ·cases hx
   ·rename_i a ha
    split at hx
    ·rename_i hcond
     split at hx
     ·cases hx
     ·rename_i hb hbx
      split at hx
      ·rename_i r' hr
       obtain ⟨n, hn⟩ := callV_iff.1 hr
       refine ⟨n, ?_⟩
       unfold evalW
       rw [hop]
       simp only
       rw [if_neg hf]
       unfold callW
       simp only [ha]
       rw [if_pos hcond]
       simp only [hbx, hn]
       exact hx
      ·cases hx
    ·cases hx
 ·rename_i hne
  refine ⟨0, ?_⟩
  unfold evalW
  cases hop : o.op with
  | call f args => exact absurd hop (hne f args)
  | _ => rw [hop] at hx; exact hx
theorem stepW_fin {tbl : List (Nat × String)} {o : WOper} {t : TT} {r : TT} (hx : stepW tbl (callV E) o t = some r) : ∃ n, stepW tbl (callWN E n) o t = some r := by
 unfold stepW at hx
 split at hx
 ·rename_i hw
  split at hx
  ·rename_i v t' hev
   obtain ⟨n, hn⟩ := evalW_fin hev
   exact ⟨n, by unfold stepW; rw [hw]; simp only; rw [hn]; exact hx⟩
  ·cases hx
 ·rename_i hw
  exact ⟨0, by unfold stepW; rw [hw]; exact hx⟩
 ·cases hx
theorem execW_fin {tbl : List (Nat × String)} : ∀ {l : List WOper} {t : TT} {r : TT}, execW tbl (callV E) l t = some r → ∃ n, execW tbl (callWN E n) l t = some r
 | [], _, _, hx => ⟨0, hx⟩
 | o :: l, t, r, hx => by
   simp only [execW] at hx
   split at hx
   ·rename_i t1 hst
    obtain ⟨n, hn⟩ := stepW_fin hst
    obtain ⟨m, hm⟩ := execW_fin hx
    refine ⟨max n m, ?_⟩
    simp only [execW]
    rw [stepW_mono (fun _ _ _ _ hx => callWN_le (Nat.le_max_left n m) hx) hn]
    exact execW_mono (fun _ _ _ _ hx => callWN_le (Nat.le_max_right n m) hx) hm
   ·cases hx
theorem drawL_fin {tbl : List (Nat × String)} : ∀ {l : List WOper} {t to : TT} {st : Nat} {g : Bool} {r : TT × Nat × List Bool}, drawL tbl (callV E) l t to st g = some r → ∃ n, drawL tbl (callWN E n) l t to st g = some r
 | [], _, _, _, _, _, hx => ⟨0, hx⟩
 | o :: l, t, to, st, g, r, hx => by
   simp only [drawL] at hx
   split at hx
   ·cases hx
   ·rename_i t1 hst
    rw [Option.map_eq_some_iff] at hx
    obtain ⟨y, hy, hx⟩ := hx
    obtain ⟨n, hn⟩ := stepW_fin hst
    obtain ⟨m, hm⟩ := drawL_fin hy
    refine ⟨max n m, ?_⟩
    simp only [drawL]
    rw [stepW_mono (fun _ _ _ _ hx => callWN_le (Nat.le_max_left n m) hx) hn]
    simp only [drawL_mono (fun _ _ _ _ hx => callWN_le (Nat.le_max_right n m) hx) hm, Option.map_some, hx]
theorem drawW_fin {tbl : List (Nat × String)} {l : List WOper} {ps : List (Nat × Nat)} {t r : TT} (hx : drawW tbl (callV E) l ps t = some r) : ∃ n, drawW tbl (callWN E n) l ps t = some r := by
 unfold drawW at hx
 split at hx
 ·rename_i t' st L hd
  obtain ⟨n, hn⟩ := drawL_fin hd
  refine ⟨n, ?_⟩
  unfold drawW
  rw [hn]
  simp only [fwdL_mono (callWN_V n) hn] at hx
  exact hx
 ·cases hx
theorem runV_lim {c : WCode} {t : TT} (g : Option (AExit × TT)) (h1 : ∀ n r, runWN E (n + 1) c t = some r → g = some r) (h2 : ∀ r, g = some r → ∃ n, runWN E n c t = some r) : runV E c t = g := by
 apply opt_ext
 intro r
 rw [runV_iff]
 constructor
 ·rintro ⟨n, hn⟩
  cases n with
  | zero => simp only [runWN] at hn; cases hn
  | succ n => exact h1 n r hn
 ·exact h2 r
theorem runV_skip {t : TT} : runV E .skip t = some (.normal, t) := runV_iff.2 ⟨1, by simp only [runWN]⟩
theorem runV_exit {vs : List Nat} {id : Nat} {t : TT} : runV E (.exit vs id) t = some (.exit id, restr vs t) := runV_iff.2 ⟨1, by simp only [runWN]⟩
theorem runV_ret {vs : List Nat} {t : TT} : runV E (.ret vs) t = some (.ret, restr vs t) := runV_iff.2 ⟨1, by simp only [runWN]⟩
theorem runV_cut {vs : List Nat} {b : WCode} {t : TT} : runV E (.cut vs b) t = runV E b (restr vs t) := by
 refine runV_lim _ (fun n r hn => ?_) (fun r hr => ?_)
 ·rw [runWN] at hn
  exact runV_iff.2 ⟨n, hn⟩
 ·obtain ⟨n, hn⟩ := runV_iff.1 hr
  exact ⟨n + 1, by rw [runWN]; exact hn⟩
theorem runV_ops {l : List WOper} {t : TT} : runV E (.ops l) t = (execW E.tbl (callV E) l t).map fun x => (.normal, x) := by
 refine runV_lim _ (fun n r hn => ?_) (fun r hr => ?_)
 ·simp only [runWN, Option.map_eq_some_iff] at hn
  obtain ⟨x, hx, hn⟩ := hn
  rw [execW_mono (callWN_V n) hx]
  simp [hn]
 ·rw [Option.map_eq_some_iff] at hr
  obtain ⟨x, hx, hr⟩ := hr
  obtain ⟨n, hn⟩ := execW_fin hx
  exact ⟨n + 1, by simp only [runWN, hn]; simp [hr]⟩
theorem runV_drawnP {l : List WOper} {p : Nat × Nat} {ps : List (Nat × Nat)} {t : TT} : runV E (.drawn l (p :: ps)) t = (drawW E.tbl (callV E) l (p :: ps) t).map fun x => (.normal, x) := by
 refine runV_lim _ (fun n r hn => ?_) (fun r hr => ?_)
 ·simp only [runWN, List.isEmpty_cons, Bool.false_eq_true, if_false, Option.map_eq_some_iff] at hn
  obtain ⟨x, hx, hn⟩ := hn
  rw [drawW_mono (callWN_V n) hx]
  simp [hn]
 ·rw [Option.map_eq_some_iff] at hr
  obtain ⟨x, hx, hr⟩ := hr
  obtain ⟨n, hn⟩ := drawW_fin hx
  exact ⟨n + 1, by simp only [runWN, List.isEmpty_cons, Bool.false_eq_true, if_false, hn]; simp [hr]⟩
theorem runV_drawn {l : List WOper} {t : TT} : runV E (.drawn l []) t = runV E (.ops l) t := by
 rw [runV_ops]
 refine runV_lim _ (fun n r hn => ?_) (fun r hr => ?_)
 ·simp only [runWN, List.isEmpty_nil, if_true, Option.map_eq_some_iff] at hn
  obtain ⟨x, hx, hn⟩ := hn
  rw [execW_mono (callWN_V n) hx]
  simp [hn]
 ·rw [Option.map_eq_some_iff] at hr
  obtain ⟨x, hx, hr⟩ := hr
  obtain ⟨n, hn⟩ := execW_fin hx
  exact ⟨n + 1, by simp only [runWN, List.isEmpty_nil, if_true, hn]; simp [hr]⟩
theorem runV_seq {a b : WCode} {t : TT} : runV E (.seq a b) t = match runV E a t with
 | some (.normal, t') => runV E b t'
 | r => r := by
 refine runV_lim _ (fun n r hn => ?_) (fun r hr => ?_)
 ·simp only [runWN] at hn
  split at hn
  ·rename_i t1 h2
   rw [runV_iff.2 ⟨n, h2⟩]
   exact runV_iff.2 ⟨n, hn⟩
  ·rename_i hne
   rw [runV_iff.2 ⟨n, hn⟩]
   split
   ·rename_i t1 he
    exact (hne t1 (by rw [hn]; exact he)).elim
   ·rfl
 ·split at hr
  ·rename_i t1 h2
   obtain ⟨n, hn⟩ := runV_iff.1 h2
   obtain ⟨m, hm⟩ := runV_iff.1 hr
   refine ⟨max n m + 1, ?_⟩
   simp only [runWN]
   rw [runWN_le (Nat.le_max_left n m) hn]
   exact runWN_le (Nat.le_max_right n m) hm
  ·rename_i hne
   obtain ⟨n, hn⟩ := runV_iff.1 hr
   refine ⟨n + 1, ?_⟩
   simp only [runWN, hn]
   split
   ·rename_i t1 he
    injection he with he
    exact (hne t1 (by rw [hr, he])).elim
   ·rfl
theorem runV_cond {c : Operand} {x y : WCode} {t : TT} : runV E (.cond c x y) t = match EvT t c with
 | .val (.sc (.bool true)) => runV E x t
 | .val (.sc (.bool false)) => runV E y t
 | _ => none := by
 refine runV_lim _ (fun n r hn => ?_) (fun r hr => ?_)
 ·simp only [runWN] at hn
  split at hn
  ·rename_i hb
   (try rw [hb]); exact runV_iff.2 ⟨n, hn⟩
  ·rename_i hb
   (try rw [hb]); exact runV_iff.2 ⟨n, hn⟩
  ·cases hn
 ·split at hr
  ·rename_i hb
   obtain ⟨n, hn⟩ := runV_iff.1 hr
   exact ⟨n + 1, by simp only [runWN, hb]; exact hn⟩
  ·rename_i hb
   obtain ⟨n, hn⟩ := runV_iff.1 hr
   exact ⟨n + 1, by simp only [runWN, hb]; exact hn⟩
  ·cases hr
theorem runV_block {id : Nat} {b : WCode} {t : TT} : runV E (.block id b) t = match runV E b t with
 | some (.exit i, t') => if i = id then some (.normal, t') else some (.exit i, t')
 | r => r := by
 refine runV_lim _ (fun n r hn => ?_) (fun r hr => ?_)
 ·simp only [runWN] at hn
  split at hn
  ·rename_i i t1 h2
   rw [runV_iff.2 ⟨n, h2⟩]
   exact hn
  ·rename_i hne
   rw [runV_iff.2 ⟨n, hn⟩]
   split
   ·rename_i i t1 he
    exact (hne i t1 (by rw [hn]; exact he)).elim
   ·rfl
 ·split at hr
  ·rename_i i t1 h2
   obtain ⟨n, hn⟩ := runV_iff.1 h2
   exact ⟨n + 1, by simp only [runWN, hn]; exact hr⟩
  ·rename_i hne
   obtain ⟨n, hn⟩ := runV_iff.1 hr
   refine ⟨n + 1, ?_⟩
   simp only [runWN, hn]
   split
   ·rename_i i t1 he
    injection he with he
    exact (hne i t1 (by rw [hr, he])).elim
   ·rfl
theorem runV_loop {vs : List Nat} {b : WCode} {t : TT} : runV E (.loop vs b) t = match runV E b (restr vs t) with
 | some (.normal, t') => runV E (.loop vs b) t'
 | r => r := by
 refine runV_lim _ (fun n r hn => ?_) (fun r hr => ?_)
 ·simp only [runWN] at hn
  split at hn
  ·rename_i t1 h2
   rw [runV_iff.2 ⟨n, h2⟩]
   exact runV_iff.2 ⟨n, hn⟩
  ·rename_i hne
   rw [runV_iff.2 ⟨n, hn⟩]
   split
   ·rename_i t1 he
    exact (hne t1 (by rw [hn]; exact he)).elim
   ·rfl
 ·split at hr
  ·rename_i t1 h2
   obtain ⟨n, hn⟩ := runV_iff.1 h2
   obtain ⟨m, hm⟩ := runV_iff.1 hr
   refine ⟨max n m + 1, ?_⟩
   simp only [runWN]
   rw [runWN_le (Nat.le_max_left n m) hn]
   exact runWN_le (Nat.le_max_right n m) hm
  ·rename_i hne
   obtain ⟨n, hn⟩ := runV_iff.1 hr
   refine ⟨n + 1, ?_⟩
   simp only [runWN, hn]
   split
   ·rename_i t1 he
    injection he with he
    exact (hne t1 (by rw [hr, he])).elim
   ·rfl
inductive Fm where
 | c (c : WCode)
 | b (id : Nat)
 | e (vs : List Nat)
mutual
noncomputable def ex (E : EnvW) : List Fm → TT → Option (AExit × TT)
 | [], t => some (.normal, t)
 | .c c :: K, t => match runV E c t with
   | some (.normal, t') => ex E K t'
   | some (.exit i, t') => unw E i K t'
   | some (.ret, t') => some (.ret, t')
   | none => none
 | .b _ :: K, t => ex E K t
 | .e vs :: _, t => some (.normal, restr vs t)
noncomputable def unw (E : EnvW) (i : Nat) : List Fm → TT → Option (AExit × TT)
 | [], t => some (.exit i, t)
 | .c _ :: K, t => unw E i K t
 | .b j :: K, t => if i = j then ex E K t else unw E i K t
 | .e _ :: _, t => some (.exit i, t)
end
def leaveV (res : List ARes) (body : WCode) (avs : List AV) (hids : List (List CV)) : Option (AExit × TT) → Option RW
 | some (.ret, t) => leaveW res body avs hids t
 | some (.normal, t) => leaveW res body avs hids t
 | _ => none
theorem callV_code {f : String} {res : List ARes} {body : WCode} {avs : List AV} {hids : List (List CV)} (hE : E.fn f = some (.code res body)) : callV E f avs hids = leaveV res body avs hids (ex E [.c body] (argTT avs hids)) := by
 have hex : ∀ t, ex E [.c body] t = runV E body t := by
  intro t
  simp only [ex, unw]
  cases hr : runV E body t with
  | none => rfl
  | some x => obtain ⟨e, t'⟩ := x; cases e <;> rfl
 rw [hex]
 apply opt_ext
 intro r
 rw [callV_iff]
 constructor
 ·rintro ⟨n, hn⟩
  cases n with
  | zero => simp only [callWN] at hn; cases hn
  | succ n =>
    simp only [callWN, hE] at hn
    split at hn
    ·rename_i t1 h2
     rw [runV_iff.2 ⟨n, h2⟩]; exact hn
    ·rename_i t1 h2
     rw [runV_iff.2 ⟨n, h2⟩]; exact hn
    ·cases hn
 ·intro hx
  unfold leaveV at hx
  split at hx
  ·rename_i t1 h2
   obtain ⟨n, hn⟩ := runV_iff.1 h2
   exact ⟨n + 1, by simp only [callWN, hE, hn]; exact hx⟩
  ·rename_i t1 h2
   obtain ⟨n, hn⟩ := runV_iff.1 h2
   exact ⟨n + 1, by simp only [callWN, hE, hn]; exact hx⟩
  ·cases hx
theorem callV_prim {f : String} {g : List AV → List (List CV) → Option RW} {avs : List AV} {hids : List (List CV)} (hE : E.fn f = some (.prim g)) : callV E f avs hids = g avs hids := by
 apply opt_ext
 intro r
 rw [callV_iff]
 constructor
 ·rintro ⟨n, hn⟩
  cases n with
  | zero => simp only [callWN] at hn; cases hn
  | succ n => simp only [callWN, hE] at hn; exact hn
 ·intro hx
  exact ⟨1, by simp only [callWN, hE]; exact hx⟩
noncomputable def thenO (E : EnvW) (x : Option TT) (K : List Fm) : Option (AExit × TT) :=
 match x with
 | some t => ex E K t
 | none => none
noncomputable def condV (E : EnvW) (v : TV) (x y : WCode) (K : List Fm) (t : TT) : Option (AExit × TT) :=
 match v with
 | .val (.sc (.bool b)) => if b = true then ex E (.c x :: K) t else ex E (.c y :: K) t
 | _ => none
noncomputable def thenL (E : EnvW) (x : Option (AExit × TT)) (K : List Fm) : Option (AExit × TT) :=
 match x with
 | some (.normal, t') => ex E K t'
 | some (.exit i, t') => unw E i K t'
 | some (.ret, t') => some (.ret, t')
 | none => none
section
variable {K : List Fm} {t : TT}
theorem ex_nil : ex E [] t = some (.normal, t) := by simp only [ex]
theorem ex_b {i : Nat} : ex E (.b i :: K) t = ex E K t := by simp only [ex]
theorem ex_e {vs : List Nat} : ex E (.e vs :: K) t = some (.normal, restr vs t) := by simp only [ex]
theorem unw_nil {i : Nat} : unw E i [] t = some (.exit i, t) := by simp only [unw]
theorem unw_c {i : Nat} {c : WCode} : unw E i (.c c :: K) t = unw E i K t := by simp only [unw]
theorem unw_b {i j : Nat} : unw E i (.b j :: K) t = if i = j then ex E K t else unw E i K t := by simp only [unw]
theorem unw_e {i : Nat} {vs : List Nat} : unw E i (.e vs :: K) t = some (.exit i, t) := by simp only [unw]
theorem ex_skip : ex E (.c .skip :: K) t = ex E K t := by simp only [ex, runV_skip]
theorem ex_exit {vs : List Nat} {id : Nat} : ex E (.c (.exit vs id) :: K) t = unw E id K (restr vs t) := by simp only [ex, runV_exit]
theorem ex_cut {vs : List Nat} {b : WCode} : ex E (.c (.cut vs b) :: K) t = ex E (.c b :: K) (restr vs t) := by simp only [ex, runV_cut]
theorem ex_ret {vs : List Nat} : ex E (.c (.ret vs) :: K) t = some (.ret, restr vs t) := by simp only [ex, runV_ret]
theorem ex_drawn {l : List WOper} : ex E (.c (.drawn l []) :: K) t = ex E (.c (.ops l) :: K) t := by simp only [ex, runV_drawn]
theorem ex_seq {a b : WCode} : ex E (.c (.seq a b) :: K) t = ex E (.c a :: .c b :: K) t := by
 simp only [ex, runV_seq, unw]
 cases hr : runV E a t with
 | none => rfl
 | some x => obtain ⟨e, t'⟩ := x; cases e <;> rfl
theorem ex_ops0 : ex E (.c (.ops []) :: K) t = ex E K t := by simp only [ex, runV_ops, execW, Option.map_some]
theorem ex_ops {o : WOper} {l : List WOper} : ex E (.c (.ops (o :: l)) :: K) t = thenO E (stepW E.tbl (callV E) o t) (.c (.ops l) :: K) := by
 simp only [ex, runV_ops, execW, thenO]
 cases stepW E.tbl (callV E) o t with
 | none => rfl
 | some t' => rfl
theorem ex_cond {c : Operand} {x y : WCode} : ex E (.c (.cond c x y) :: K) t = condV E (EvT t c) x y K t := by
 simp only [ex, runV_cond, condV]
 cases EvT t c with
 | val p => cases p with
   | sc v => cases v with
     | bool b => cases b <;> rfl
     | _ => rfl
   | _ => rfl
 | _ => rfl
theorem ex_block {id : Nat} {b : WCode} : ex E (.c (.block id b) :: K) t = ex E (.c b :: .b id :: K) t := by
 simp only [ex, runV_block, unw]
 cases hr : runV E b t with
 | none => rfl
 | some x =>
   obtain ⟨e, t'⟩ := x
   cases e with
   | exit i =>
     simp only
     by_cases hi : i = id
     ·simp only [if_pos hi]
     ·simp only [if_neg hi]
   | _ => rfl
theorem ex_loop {vs : List Nat} {b : WCode} : ex E (.c (.loop vs b) :: K) t = thenL E (runV E (.loop vs b) t) K := by
 simp only [ex, thenL]
theorem restr_congr : ∀ (us : List Nat) (t t' : TT), (∀ i ∈ us, t i = t' i) → restr us t = restr us t'
 | [], _, _, _ => rfl
 | u :: us, t, t', hh => by
   simp only [restr]
   rw [restr_congr us t t' (fun i hi => hh i (by simp [hi])), hh u (by simp)]
theorem restr_in : ∀ (us : List Nat) (t : TT) (i : Nat), i ∈ us → restr us t i = t i
 | [], t, i, hi => by simp at hi
 | u :: us, t, i, hi => by
   simp only [restr, updT]
   split
   ·rename_i he; rw [he]
   ·rename_i hne
    rcases List.mem_cons.1 hi with e | e
    ·exact absurd e hne
    ·exact restr_in us t i e
theorem restr_restr (vs : List Nat) (t : TT) : restr vs (restr vs t) = restr vs t := restr_congr vs _ _ (fun i hi => restr_in vs t i hi)
theorem runV_restr {vs : List Nat} {b : WCode} : runV E (.loop vs b) (restr vs t) = runV E (.loop vs b) t := by
 rw [runV_loop, runV_loop (t := t), restr_restr]
theorem ex_loopR {vs : List Nat} {b : WCode} : ex E (.c (.loop vs b) :: K) t = thenL E (runV E (.loop vs b) (restr vs t)) K := by rw [runV_restr]; exact ex_loop
theorem loop_go {vs : List Nat} {b : WCode} {t t' : TT} {r : Option (AExit × TT)} (h : ex E [.c b, .e vs] (restr vs t) = some (.normal, t')) (hr : runV E (.loop vs b) t' = r) : runV E (.loop vs b) t = r := by
 rw [← hr, runV_loop]
 simp only [ex, unw] at h
 cases hb : runV E b (restr vs t) with
 | none => rw [hb] at h; cases h
 | some x =>
   obtain ⟨e, t2⟩ := x
   rw [hb] at h
   cases e with
   | normal =>
     simp only at h
     injection h with h; injection h with _ h
     subst h
     exact runV_restr.symm
   | exit i => simp only at h; injection h with h; injection h with h _; cases h
   | ret => simp only at h; injection h with h; injection h with h _; cases h
theorem loop_out {vs : List Nat} {b : WCode} {t t' : TT} {x : AExit} {r : Option (AExit × TT)} (h : ex E [.c b, .e vs] (restr vs t) = some (x, t')) (hr : some (x, t') = r) (hx : x ≠ .normal) : runV E (.loop vs b) t = r := by
 rw [← hr, runV_loop]
 simp only [ex, unw] at h
 cases hb : runV E b (restr vs t) with
 | none => rw [hb] at h; cases h
 | some y =>
   obtain ⟨e, t2⟩ := y
   rw [hb] at h
   cases e with
   | normal => simp only at h; injection h with h; injection h with h _; exact absurd h.symm hx
   | exit i => simp only at h ⊢; exact h
   | ret => simp only at h ⊢; exact h
end
end
end Go.Wb
namespace Go.Wb
open Go
attribute [simp] IntKind.bits
def iteV {α : Type} (b : Bool) (x y : α) : α := if b = true then x else y
theorem iteV_split {α : Type} {b : Bool} {x y r : α} (hx : b = true → x = r) (hy : b = false → y = r) : iteV b x y = r := by
 cases b with
 | true => exact hx rfl
 | false => exact hy rfl
@[simp] theorem iteV_true {α : Type} {x y : α} : iteV true x y = x := rfl
@[simp] theorem iteV_false {α : Type} {x y : α} : iteV false x y = y := rfl
theorem iteV_not {α : Type} {b : Bool} {x y : α} : iteV (!b) x y = iteV b y x := by cases b <;> rfl
theorem iteV_if {α : Type} {p : Prop} [Decidable p] {x y : α} : iteV (decide p) x y = if p then x else y := by by_cases h : p <;> simp [iteV, h]
abbrev ti (k : IntKind) (a : Int) : TV := .val (.sc (.int k a))
abbrev tb (b : Bool) : TV := .val (.sc (.bool b))
abbrev ts (s : ByteArray) : TV := .val (.sc (.string s))
section
variable {E : EnvW} {K : List Fm} {t : TT} {l : List WOper} {d : Nat} {r : Bool} {ann : List (Nat × Nat)} {io : List Nat}
attribute [simp] ex_cut ex_nil ex_b ex_e unw_nil unw_c unw_b unw_e ex_skip ex_exit ex_ret ex_drawn ex_seq ex_ops0 ex_cond ex_block ex_loopR
attribute [simp] restr
noncomputable def later (E : EnvW) (K : List Fm) (t : TT) : Option (AExit × TT) := ex E K t
theorem later_eq : later E K t = ex E K t := rfl
theorem condV_bool {b : Bool} {x y : WCode} : condV E (tb b) x y K t = iteV b (later E (.c x :: K) t) (later E (.c y :: K) t) := rfl
@[simp] theorem condV_true {x y : WCode} : condV E (tb true) x y K t = ex E (.c x :: K) t := rfl
@[simp] theorem condV_false {x y : WCode} : condV E (tb false) x y K t = ex E (.c y :: K) t := rfl
@[simp low] theorem condV_any {b : Bool} {x y : WCode} : condV E (tb b) x y K t = iteV b (later E (.c x :: K) t) (later E (.c y :: K) t) := rfl
@[simp] theorem thenL_normal {t' : TT} : thenL E (some (.normal, t')) K = ex E K t' := rfl
@[simp] theorem thenL_exit {i : Nat} {t' : TT} : thenL E (some (.exit i, t')) K = unw E i K t' := rfl
@[simp] theorem thenL_ret {t' : TT} : thenL E (some (.ret, t')) K = some (.ret, t') := rfl
@[simp] theorem thenL_none : thenL E none K = none := rfl
theorem updT_at {k i : Nat} {v : TV} : updT t k v i = if i = k then v else t i := rfl
theorem setR_at {k i : Nat} {v : TV} : setR t k v i = if i = k then v else kl k (t i) := rfl
theorem setC_at {k i : Nat} {v : TV} : setC t k v i = if i = k then v else klC k (t i) := rfl
attribute [simp] updT_at setR_at setC_at
@[simp] theorem botT_at {i : Nat} : botT i = .undef := rfl
@[simp] theorem updT_same {k : Nat} {v w : TV} : updT (updT t k v) k w = updT t k w := by funext i; simp only [updT]; split <;> rfl
@[simp] theorem kl_undef {k : Nat} : kl k .undef = .undef := rfl
@[simp] theorem kl_skip {k : Nat} : kl k .skip = .skip := rfl
@[simp] theorem kl_val {k : Nat} {p : PV} : kl k (.val p) = .val p := rfl
@[simp] theorem kl_own {k n s : Nat} {cs : List PV} : kl k (.own n s cs) = .own n s cs := rfl
@[simp] theorem kl_box {k : Nat} {cs : List CV} : kl k (.box cs) = .box cs := rfl
@[simp] theorem kl_hbox {k : Nat} {cs : List CV} : kl k (.hbox cs) = .hbox cs := rfl
@[simp] theorem kl_tup {k : Nat} {cs : List CV} : kl k (.tup cs) = .tup cs := rfl
@[simp] theorem kl_pf {k off : Nat} {cs : List PV} : kl k (.pf cs off) = .pf cs off := rfl
@[simp] theorem kl_ref {k k' off : Nat} {c : Option Nat} : kl k (.ref k' c off) = if k' = k then .undef else .ref k' c off := rfl
@[simp] theorem kl_slc {k k' off n s : Nat} {c : Option Nat} : kl k (.slc k' c off n s) = if k' = k then .undef else .slc k' c off n s := rfl
@[simp] theorem kl_clo {k f : Nat} {caps : List (Nat ⊕ PV)} : kl k (.clo f caps) = if names k caps then .undef else .clo f caps := rfl
@[simp] theorem klC_undef {k : Nat} : klC k .undef = .undef := rfl
@[simp] theorem klC_skip {k : Nat} : klC k .skip = .skip := rfl
@[simp] theorem klC_val {k : Nat} {p : PV} : klC k (.val p) = .val p := rfl
@[simp] theorem klC_own {k n s : Nat} {cs : List PV} : klC k (.own n s cs) = .own n s cs := rfl
@[simp] theorem klC_box {k : Nat} {cs : List CV} : klC k (.box cs) = .box cs := rfl
@[simp] theorem klC_hbox {k : Nat} {cs : List CV} : klC k (.hbox cs) = .hbox cs := rfl
@[simp] theorem klC_tup {k : Nat} {cs : List CV} : klC k (.tup cs) = .tup cs := rfl
@[simp] theorem klC_pf {k off : Nat} {cs : List PV} : klC k (.pf cs off) = .pf cs off := rfl
@[simp] theorem klC_ref0 {k k' off : Nat} : klC k (.ref k' none off) = .ref k' none off := rfl
@[simp] theorem klC_ref1 {k k' off c : Nat} : klC k (.ref k' (some c) off) = if k' = k then .undef else .ref k' (some c) off := rfl
@[simp] theorem klC_slc0 {k k' off n s : Nat} : klC k (.slc k' none off n s) = .slc k' none off n s := rfl
@[simp] theorem klC_slc1 {k k' off n s c : Nat} : klC k (.slc k' (some c) off n s) = if k' = k then .undef else .slc k' (some c) off n s := rfl
@[simp] theorem klC_clo {k f : Nat} {caps : List (Nat ⊕ PV)} : klC k (.clo f caps) = .clo f caps := rfl
attribute [simp] names
@[simp] theorem isRoot_val {p : PV} : isRoot (.val p) = false := rfl
@[simp] theorem isRoot_undef : isRoot .undef = false := rfl
@[simp] theorem isRoot_skip : isRoot .skip = false := rfl
@[simp] theorem isRoot_own {n s : Nat} {cs : List PV} : isRoot (.own n s cs) = true := rfl
@[simp] theorem isRoot_box {cs : List CV} : isRoot (.box cs) = true := rfl
@[simp] theorem isRoot_tup {cs : List CV} : isRoot (.tup cs) = true := rfl
@[simp] theorem isRoot_pf {off : Nat} {cs : List PV} : isRoot (.pf cs off) = false := rfl
@[simp] theorem isRoot_ref {k off : Nat} {c : Option Nat} : isRoot (.ref k c off) = false := rfl
@[simp] theorem isRoot_slc {k off n s : Nat} {c : Option Nat} : isRoot (.slc k c off n s) = false := rfl
@[simp] theorem isRoot_clo {f : Nat} {caps : List (Nat ⊕ PV)} : isRoot (.clo f caps) = false := rfl
noncomputable def go1 (E : EnvW) (v : Option TV) (d : Nat) (t : TT) (l : List WOper) (K : List Fm) : Option (AExit × TT) :=
 match v with
 | some v => ex E (.c (.ops l) :: K) (putT t (some d) v)
 | none => none
noncomputable def goP (E : EnvW) (x : Option (TV × TT)) (d : Option Nat) (l : List WOper) (K : List Fm) : Option (AExit × TT) :=
 match x with
 | some (v, t) => ex E (.c (.ops l) :: K) (putT t d v)
 | none => none
@[simp] theorem go1_some {v : TV} : go1 E (some v) d t l K = ex E (.c (.ops l) :: K) (if isRoot v then setR t d v else updT t d v) := rfl
@[simp] theorem go1_none : go1 E none d t l K = none := rfl
@[simp] theorem goP_some {v : TV} : goP E (some (v, t)) (some d) l K = ex E (.c (.ops l) :: K) (if isRoot v then setR t d v else updT t d v) := rfl
@[simp] theorem goP_some0 {v : TV} : goP E (some (v, t)) none l K = ex E (.c (.ops l) :: K) t := rfl
@[simp] theorem goP_none {d : Option Nat} : goP E none d l K = none := rfl
theorem ex_step {o : WOper} (hg : o.guard = none) : ex E (.c (.ops (o :: l)) :: K) t = goP E (evalW E.tbl (callV E) o t) o.dst l K := by
 rw [ex_ops]
 unfold stepW
 rw [hg]
 simp only [wantedW]
 cases evalW E.tbl (callV E) o t with
 | none => rfl
 | some x => rfl
theorem go_map {f : Option TV} {d : Nat} : goP E (f.map fun v => (v, t)) (some d) l K = go1 E f d t l K := by
 cases f <;> rfl
noncomputable def guardV (E : EnvW) (g : TV) (w : Bool) (o : WOper) (l : List WOper) (K : List Fm) (t : TT) : Option (AExit × TT) :=
 match g with
 | .val (.sc (.bool b)) => if b = w then ex E (.c (.ops (o :: l)) :: K) t else ex E (.c (.ops l) :: K) (putT t o.dst .skip)
 | .skip => ex E (.c (.ops l) :: K) (putT t o.dst .skip)
 | _ => none
section
variable {o : WOper}
@[simp] theorem guardV_tt : guardV E (tb true) true o l K t = ex E (.c (.ops (o :: l)) :: K) t := rfl
@[simp] theorem guardV_ff : guardV E (tb false) false o l K t = ex E (.c (.ops (o :: l)) :: K) t := rfl
@[simp] theorem guardV_tf : guardV E (tb true) false o l K t = ex E (.c (.ops l) :: K) (putT t o.dst .skip) := rfl
@[simp] theorem guardV_ft : guardV E (tb false) true o l K t = ex E (.c (.ops l) :: K) (putT t o.dst .skip) := rfl
@[simp] theorem guardV_skip {w : Bool} : guardV E .skip w o l K t = ex E (.c (.ops l) :: K) (putT t o.dst .skip) := rfl
@[simp low] theorem guardV_t {b : Bool} : guardV E (tb b) true o l K t = iteV b (later E (.c (.ops (o :: l)) :: K) t) (later E (.c (.ops l) :: K) (putT t o.dst .skip)) := by cases b <;> rfl
@[simp low] theorem guardV_f {b : Bool} : guardV E (tb b) false o l K t = iteV b (later E (.c (.ops l) :: K) (putT t o.dst .skip)) (later E (.c (.ops (o :: l)) :: K) t) := by cases b <;> rfl
@[simp] theorem putT_skip {d : Nat} : putT t (some d) .skip = updT t d .skip := rfl
@[simp] theorem putT_none {v : TV} : putT t none v = t := rfl
end
@[simp] theorem ex_guard {op : AOp} {k : Nat} {w : Bool} {o : Option Nat} : ex E (.c (.ops (⟨o, r, op, some (k, w), ann, io⟩ :: l)) :: K) t = guardV E (t k) w ⟨o, r, op, none, ann, io⟩ l K t := by
  rw [ex_ops]
  unfold guardV
  rw [ex_ops]
  unfold stepW
  simp only [wantedW]
  cases ht : t k with
  | val p => cases p with
    | sc v => cases v with
      | bool b =>
        by_cases hb : b = w
        ·subst hb
         simp only [beq_self_eq_true, if_true]
         rfl
        ·have : (b == w) = false := by simpa using hb
         simp only [this, if_neg hb]
         rfl
      | _ => rfl
    | _ => rfl
  | _ => rfl
@[simp] theorem EvT_tmp {i : Nat} : EvT t (.tmp i) = t i := rfl
@[simp] theorem EvT_int {k : IntKind} {a : Int} : EvT t (.const (.int k a)) = ti k a := rfl
@[simp] theorem EvT_bool {b : Bool} : EvT t (.const (.bool b)) = tb b := rfl
@[simp] theorem EvT_str {s : ByteArray} : EvT t (.const (.string s)) = ts s := rfl
@[simp] theorem EvT_nil : EvT t (.const (.slice none 0 0)) = .val (.sl 0 []) := rfl
@[simp] theorem EvT_nilF : EvT t (.const .nilFunc) = .val (.sc .nilFunc) := rfl
@[simp] theorem EvT_func {f : Nat} : EvT t (.func f) = .val (.sc (.func (.func f) #[] #[])) := rfl
def binT (op : BinOp) : TV → TV → Option TV
 | .val (.sc a), .val (.sc b) => match aBin op a b with
   | some v => if scalar v then some (.val (.sc v)) else none
   | none => none
 | _, _ => none
theorem aBin_sc {op : BinOp} {x y v : Value} (h : aBin op x y = some v) : scalar v = true := by
 unfold aBin at h
 split at h
 ·split at h
  ·unfold aShift at h
   split at h <;> first | (split at h <;> first | (injection h with h; subst h; rfl) | cases h) | cases h
  ·split at h
   ·unfold aInt at h
    split at h <;> first | (injection h with h; subst h; rfl) | (split at h <;> first | (injection h with h; subst h; rfl) | cases h) | cases h
   ·cases h
 ·unfold aStr at h
  split at h <;> first | (injection h with h; subst h; rfl) | (split at h <;> first | (injection h with h; subst h; rfl) | cases h) | cases h
 ·cases h
theorem Ev_scT {x : Operand} : Ev (scT t) x = match x with
 | .tmp i => scV (t i)
 | .const v => v
 | .global _ => Go.undef
 | .func f => .func (.func f) #[] #[] := by cases x <;> rfl
section
variable {k k' : IntKind} {a b : Int}
@[simp] theorem binT_add : binT .add (ti k a) (ti k b) = some (ti k (k.wrap (a + b))) := by simp [binT, aBin, isShift, aInt, scalar]
@[simp] theorem binT_sub : binT .sub (ti k a) (ti k b) = some (ti k (k.wrap (a - b))) := by simp [binT, aBin, isShift, aInt, scalar]
@[simp] theorem binT_mul : binT .mul (ti k a) (ti k b) = some (ti k (k.wrap (a * b))) := by simp [binT, aBin, isShift, aInt, scalar]
@[simp] theorem binT_quo : binT .quo (ti k a) (ti k b) = if b = 0 then none else some (ti k (k.wrap (a.tdiv b))) := by
  simp only [binT, aBin, isShift, aInt, if_true]
  by_cases h : b = 0 <;> simp [h, scalar]
@[simp] theorem binT_rem : binT .rem (ti k a) (ti k b) = if b = 0 then none else some (ti k (a.tmod b)) := by
  simp only [binT, aBin, isShift, aInt, if_true]
  by_cases h : b = 0 <;> simp [h, scalar]
@[simp] theorem binT_and : binT .and (ti k a) (ti k b) = some (ti k (bits .and k a b)) := by simp [binT, aBin, isShift, aInt, scalar]
@[simp] theorem binT_or : binT .or (ti k a) (ti k b) = some (ti k (bits .or k a b)) := by simp [binT, aBin, isShift, aInt, scalar]
@[simp] theorem binT_xor : binT .xor (ti k a) (ti k b) = some (ti k (bits .xor k a b)) := by simp [binT, aBin, isShift, aInt, scalar]
@[simp] theorem binT_andNot : binT .andNot (ti k a) (ti k b) = some (ti k (bits .andNot k a b)) := by simp [binT, aBin, isShift, aInt, scalar]
@[simp] theorem binT_eql : binT .eql (ti k a) (ti k b) = some (tb (decide (a = b))) := by
  have : (a == b) = decide (a = b) := by by_cases h : a = b <;> simp [h]
  simp [binT, aBin, isShift, aInt, scalar, this]
@[simp] theorem binT_neq : binT .neq (ti k a) (ti k b) = some (tb (!decide (a = b))) := by
  have : (a != b) = !decide (a = b) := by by_cases h : a = b <;> simp [h]
  simp [binT, aBin, isShift, aInt, scalar, this]
@[simp] theorem binT_lss : binT .lss (ti k a) (ti k b) = some (tb (decide (a < b))) := by simp [binT, aBin, isShift, aInt, scalar]
@[simp] theorem binT_leq : binT .leq (ti k a) (ti k b) = some (tb (decide (a ≤ b))) := by simp [binT, aBin, isShift, aInt, scalar]
@[simp] theorem binT_gtr : binT .gtr (ti k a) (ti k b) = some (tb (decide (b < a))) := by simp [binT, aBin, isShift, aInt, scalar]
@[simp] theorem binT_geq : binT .geq (ti k a) (ti k b) = some (tb (decide (b ≤ a))) := by simp [binT, aBin, isShift, aInt, scalar]
@[simp] theorem binT_shl : binT .shl (ti k a) (ti k' b) = if b < 0 then none else some (ti k (k.wrap (a * 2 ^ (min b.toNat k.bits)))) := by
  simp only [binT, aBin, isShift, aShift, if_true]
  by_cases h : b < 0 <;> simp [h, scalar]
@[simp] theorem binT_shr : binT .shr (ti k a) (ti k' b) = if b < 0 then none else some (ti k (a / (2 ^ (min b.toNat k.bits)))) := by
  simp only [binT, aBin, isShift, aShift, if_true]
  by_cases h : b < 0 <;> simp [h, scalar]
  exact Int.fdiv_eq_ediv_of_nonneg _ (Int.pow_nonneg (by decide))
@[simp] theorem binT_seq {x y : ByteArray} : binT .eql (ts x) (ts y) = some (tb (x.toList == y.toList)) := by simp [binT, aBin, aStr, scalar]
@[simp] theorem binT_sne {x y : ByteArray} : binT .neq (ts x) (ts y) = some (tb (!(x.toList == y.toList))) := by simp [binT, aBin, aStr, scalar]
@[simp] theorem binT_sadd {x y : ByteArray} : binT .add (ts x) (ts y) = if ((x.size + y.size : Nat) : Int) > 9223372036854775807 then none else some (ts (x ++ y)) := by
  simp only [binT, aBin, aStr]
  by_cases h : ((x.size + y.size : Nat) : Int) > 9223372036854775807
  ·rw [if_pos h, if_pos h]
  ·rw [if_neg h, if_neg h]; rfl
end
theorem scV_undef : ∀ {v : TV}, (∀ a, v ≠ .val (.sc a)) → scV v = Go.undef
 | .val (.sc a), h => absurd rfl (h a)
 | .val (.agg _), _ | .val (.sl _ _), _ | .undef, _ | .skip, _ | .own .., _ | .box _, _ | .ref .., _ | .slc .., _ | .pf .., _ | .tup _, _ | .hbox _, _ | .clo .., _ => rfl
theorem EvT_scT {x : Operand} (hx : ∀ v, x = .const v → scalar v = true) : Ev (scT t) x = scV (EvT t x) := by
 cases x with
 | tmp i => rfl
 | const v =>
   have hs := hx v rfl
   simp only [Ev, EvT]
   have hp : pvC v = some (.sc v) := by
    unfold pvC
    split
    ·simp [scalar] at hs
    ·rw [if_pos hs]
   rw [hp]; rfl
 | global g => rfl
 | func f => rfl
def okC : Operand → Bool
 | .const v => scalar v
 | _ => true
theorem okC_at {x : Operand} (h : okC x = true) : ∀ v, x = .const v → scalar v = true := by
 rintro v rfl; exact h
theorem ex_bin {op : BinOp} {x y : Operand} (hx : okC x = true) (hy : okC y = true) : ex E (.c (.ops (⟨some d, r, .bin op x y, none, ann, io⟩ :: l)) :: K) t = go1 E (binT op (EvT t x) (EvT t y)) d t l K := by
 rw [ex_step rfl]
 simp only [evalW, opW, isSc, if_true, aOp, EvT_scT (okC_at hx), EvT_scT (okC_at hy)]
 have hb : ∀ a b : TV, binT op a b = match aBin op (scV a) (scV b) with | some v => if scalar v then some (.val (.sc v)) else none | none => none := by
  have u1 : ∀ y, aBin op Go.undef y = none := fun y => rfl
  have u2 : ∀ y, aBin op y Go.undef = none := fun y => by cases y <;> rfl
  intro a b
  by_cases ha : ∃ u, a = .val (.sc u)
  ·obtain ⟨u, rfl⟩ := ha
   by_cases hb : ∃ w, b = .val (.sc w)
   ·obtain ⟨w, rfl⟩ := hb; rfl
   ·rw [scV_undef (v := b) (fun w hw => hb ⟨w, hw⟩), u2]
    cases b <;> first | rfl | (rename_i p; cases p <;> first | rfl | exact absurd ⟨_, rfl⟩ hb)
  ·rw [scV_undef (v := a) (fun w hw => ha ⟨w, hw⟩), u1]
   cases a <;> first | rfl | (rename_i p; cases p <;> first | rfl | exact absurd ⟨_, rfl⟩ ha)
 rw [hb]
 cases haB : aBin op (scV (EvT t x)) (scV (EvT t y)) with
 | none => rfl
 | some v =>
   have hs := aBin_sc haB
   simp only [Option.map_some, hs, if_true]
   rfl
@[simp] theorem okC_tmp {i : Nat} : okC (.tmp i) = true := by simp [okC]
@[simp] theorem okC_const {v : Value} : okC (.const v) = scalar v := by simp [okC]
@[simp] theorem okC_func {f : Nat} : okC (.func f) = true := by simp [okC]
@[simp] theorem scalar_int {k : IntKind} {a : Int} : scalar (.int k a) = true := by simp [scalar]
@[simp] theorem scalar_bool {b : Bool} : scalar (.bool b) = true := by simp [scalar]
@[simp] theorem scalar_str {b : ByteArray} : scalar (.string b) = true := by simp [scalar]
@[simp] theorem scalar_nilF : scalar .nilFunc = true := by simp [scalar]
def unT (op : UnOp) (v : TV) : Option TV :=
 match aUn op (scV v) with
 | some u => some (.val (.sc u))
 | none => none
def cvT (k : IntKind) (v : TV) : Option TV :=
 match scV v with
 | .int _ n => some (ti k (k.wrap n))
 | _ => none
def csT (v : TV) : Option TV :=
 match scV v with
 | .string s => some (ts s)
 | _ => none
def lsT (v : TV) : Option TV :=
 match scV v with
 | .string s => some (ti .i64 s.size)
 | _ => none
def isT (v i : TV) : Option TV :=
 match scV v, scV i with
 | .string s, .int _ i => if 0 ≤ i then (s.data.toList[i.toNat]?).map fun b => ti .u8 b.toNat else none
 | _, _ => none
def bbT (op : BinOp) (x y : TV) : Option TV :=
 match aBinB op (scV x) (scV y) with
 | some u => some (.val (.sc u))
 | none => none
def mxT (x y : TV) : Option TV :=
 match scV x, scV y with
 | .int k a, .int _ b => some (ti k (max a b))
 | _, _ => none
def mnT (x y : TV) : Option TV :=
 match scV x, scV y with
 | .int k a, .int _ b => some (ti k (min a b))
 | _, _ => none
def pkT (c x y : TV) : Option TV :=
 match c with
 | .val (.sc (.bool b)) => iteV b (match x with | .val (.sc v) => if scalar v then some (.val (.sc v)) else none | _ => none) (match y with | .val (.sc v) => if scalar v then some (.val (.sc v)) else none | _ => none)
 | _ => none
def boundI (d m : Nat) : Option TV → Option Nat
 | none => if d ≤ m then some d else none
 | some v => match v with
   | .val (.sc (.int _ i)) => if 0 ≤ i ∧ i ≤ m then some i.toNat else none
   | _ => none
def ssT (v : TV) (lo hi : Option TV) : Option TV :=
 match scV v with
 | .string s => match boundI s.size s.size hi with
   | some hh => match boundI 0 hh lo with
     | some l => some (ts (s.extract l hh))
     | none => none
   | none => none
 | _ => none
section
variable {k k' : IntKind} {a b : Int} {s : ByteArray} {x y : Bool}
@[simp] theorem unT_neg : unT .neg (ti k a) = some (ti k (k.wrap (0 - a))) := rfl
@[simp] theorem unT_xor : unT .xor (ti k a) = some (ti k (bits .xor k (if k.signed then -1 else k.max) a)) := rfl
@[simp] theorem unT_not : unT .not (tb x) = some (tb (!x)) := rfl
@[simp] theorem cvT_int : cvT k (ti k' a) = some (ti k (k.wrap a)) := rfl
@[simp] theorem csT_str : csT (ts s) = some (ts s) := rfl
@[simp] theorem lsT_str : lsT (ts s) = some (ti .i64 s.size) := rfl
@[simp] theorem isT_at : isT (ts s) (ti k a) = if 0 ≤ a then (s.data.toList[a.toNat]?).map fun b => ti .u8 b.toNat else none := rfl
@[simp] theorem bbT_eql : bbT .eql (tb x) (tb y) = some (tb (x == y)) := rfl
@[simp] theorem bbT_neq : bbT .neq (tb x) (tb y) = some (tb (!(x == y))) := rfl
@[simp] theorem mxT_int : mxT (ti k a) (ti k' b) = some (ti k (max a b)) := rfl
@[simp] theorem mnT_int : mnT (ti k a) (ti k' b) = some (ti k (min a b)) := rfl
@[simp] theorem pkT_bb {c : Bool} : pkT (tb c) (tb x) (tb y) = some (tb (iteV c x y)) := by cases c <;> rfl
@[simp] theorem pkT_true {v : TV} : pkT (tb true) (tb x) v = some (tb x) := rfl
@[simp] theorem pkT_false {v : TV} : pkT (tb false) v (tb y) = some (tb y) := rfl
@[simp] theorem iteV_bool_true {c x : Bool} : iteV c true x = (c || x) := by cases c <;> rfl
@[simp] theorem iteV_bool_false {c x : Bool} : iteV c x false = (c && x) := by cases c <;> rfl
@[simp] theorem boundI_none {d m : Nat} : boundI d m none = if d ≤ m then some d else none := rfl
@[simp] theorem boundI_int {d m : Nat} : boundI d m (some (ti k a)) = if 0 ≤ a ∧ a ≤ m then some a.toNat else none := rfl
end
theorem boundT_I {d m : Nat} {o : Option Operand} : boundT t d m o = boundI d m (o.map (EvT t)) := by
 cases o with
 | none => rfl
 | some x =>
   simp only [boundT, boundI, Option.map_some]
   cases EvT t x with
   | val p => cases p with
     | sc v => cases v <;> rfl
     | _ => rfl
   | _ => rfl
theorem bound_I {d m : Nat} {o : Option Operand} (ho : ∀ x, o = some x → okC x = true) : bound (scT t) d m o = boundI d m (o.map (EvT t)) := by
 cases o with
 | none => rfl
 | some x =>
   simp only [bound, boundI, Option.map_some, EvT_scT (okC_at (ho x rfl))]
   cases EvT t x with
   | val p => cases p with
     | sc v => cases v <;> rfl
     | _ => rfl
   | _ => rfl
section
variable {x y z : Operand}
theorem aUn_sc {op : UnOp} {x v : Value} (h : aUn op x = some v) : scalar v = true := by
 unfold aUn at h
 split at h <;> first | (injection h with h; subst h; rfl) | cases h
theorem ex_un {op : UnOp} (hx : okC x = true) : ex E (.c (.ops (⟨some d, r, .un op x, none, ann, io⟩ :: l)) :: K) t = go1 E (unT op (EvT t x)) d t l K := by
 rw [ex_step rfl]
 simp only [evalW, opW, isSc, if_true, aOp, EvT_scT (okC_at hx), unT]
 cases h : aUn op (scV (EvT t x)) with
 | none => rfl
 | some v => simp only [Option.map_some, aUn_sc h, if_true]; rfl
theorem ex_convInt {k : IntKind} (hx : okC x = true) : ex E (.c (.ops (⟨some d, r, .convInt k x, none, ann, io⟩ :: l)) :: K) t = go1 E (cvT k (EvT t x)) d t l K := by
 rw [ex_step rfl]
 simp only [evalW, opW, isSc, if_true, aOp, EvT_scT (okC_at hx), cvT]
 cases scV (EvT t x) <;> rfl
theorem ex_convStr (hx : okC x = true) : ex E (.c (.ops (⟨some d, r, .convStr x, none, ann, io⟩ :: l)) :: K) t = go1 E (csT (EvT t x)) d t l K := by
 rw [ex_step rfl]
 simp only [evalW, opW, isSc, if_true, aOp, EvT_scT (okC_at hx), csT]
 cases scV (EvT t x) <;> rfl
theorem ex_lenStr (hx : okC x = true) : ex E (.c (.ops (⟨some d, r, .lenStr x, none, ann, io⟩ :: l)) :: K) t = go1 E (lsT (EvT t x)) d t l K := by
 rw [ex_step rfl]
 simp only [evalW, opW, isSc, if_true, aOp, EvT_scT (okC_at hx), lsT]
 cases scV (EvT t x) <;> rfl
theorem ex_idxStr (hx : okC x = true) (hy : okC y = true) : ex E (.c (.ops (⟨some d, r, .idxStr x y, none, ann, io⟩ :: l)) :: K) t = go1 E (isT (EvT t x) (EvT t y)) d t l K := by
 rw [ex_step rfl]
 simp only [evalW, opW, isSc, if_true, aOp, EvT_scT (okC_at hx), EvT_scT (okC_at hy), isT]
 cases scV (EvT t x) <;> cases scV (EvT t y) <;> first | rfl | skip
 rename_i s k i
 by_cases h0 : 0 ≤ i
 ·simp only [if_pos h0]
  cases s.data.toList[i.toNat]? <;> rfl
 ·simp only [if_neg h0]
  rfl
theorem ex_binB {op : BinOp} (hx : okC x = true) (hy : okC y = true) : ex E (.c (.ops (⟨some d, r, .binB op x y, none, ann, io⟩ :: l)) :: K) t = go1 E (bbT op (EvT t x) (EvT t y)) d t l K := by
 rw [ex_step rfl]
 simp only [evalW, opW, isSc, if_true, aOp, EvT_scT (okC_at hx), EvT_scT (okC_at hy), bbT]
 cases h : aBinB op (scV (EvT t x)) (scV (EvT t y)) with
 | none => rfl
 | some v =>
   have hs : scalar v = true := by
    unfold aBinB at h
    split at h <;> first | (injection h with h; subst h; rfl) | cases h
   simp only [Option.map_some, hs, if_true]; rfl
theorem ex_max2 (hx : okC x = true) (hy : okC y = true) : ex E (.c (.ops (⟨some d, r, .max2 x y, none, ann, io⟩ :: l)) :: K) t = go1 E (mxT (EvT t x) (EvT t y)) d t l K := by
 rw [ex_step rfl]
 simp only [evalW, opW, isSc, if_true, aOp, EvT_scT (okC_at hx), EvT_scT (okC_at hy), mxT]
 cases scV (EvT t x) <;> cases scV (EvT t y) <;> first | rfl | skip
 rename_i k a k' b
 have : (if b > a then b else a) = max a b := by rw [Int.max_def]; split <;> split <;> omega
 simp only [this]
 rfl
theorem ex_min2 (hx : okC x = true) (hy : okC y = true) : ex E (.c (.ops (⟨some d, r, .min2 x y, none, ann, io⟩ :: l)) :: K) t = go1 E (mnT (EvT t x) (EvT t y)) d t l K := by
 rw [ex_step rfl]
 simp only [evalW, opW, isSc, if_true, aOp, EvT_scT (okC_at hx), EvT_scT (okC_at hy), mnT]
 cases scV (EvT t x) <;> cases scV (EvT t y) <;> first | rfl | skip
 rename_i k a k' b
 have : (if b < a then b else a) = min a b := by rw [Int.min_def]; split <;> split <;> omega
 simp only [this]
 rfl
theorem ex_pick (hx : okC x = true) (hy : okC y = true) (hz : okC z = true) : ex E (.c (.ops (⟨some d, r, .pick x y z, none, ann, io⟩ :: l)) :: K) t = go1 E (pkT (EvT t x) (EvT t y) (EvT t z)) d t l K := by
 rw [ex_step rfl]
 simp only [evalW, opW, isSc, if_true, aOp, EvT_scT (okC_at hx), EvT_scT (okC_at hy), EvT_scT (okC_at hz), pkT]
 have key : ∀ v : TV, (match v with | .val (.sc v) => if scalar v then some (TV.val (.sc v)) else none | _ => none) = if scalar (scV v) then some (.val (.sc (scV v))) else none := by
  intro v
  cases v with
  | val p => cases p <;> rfl
  | _ => rfl
 rw [key, key]
 cases EvT t x with
 | val p => cases p with
   | sc v => cases v with
     | bool b =>
       cases b
       ·simp only [show scV (TV.val (PV.sc (Value.bool false))) = Value.bool false from rfl, iteV_false]
        by_cases hs : scalar (scV (EvT t z)) = true
        ·simp only [hs, if_true]; rfl
        ·simp only [hs]; rfl
       ·simp only [show scV (TV.val (PV.sc (Value.bool true))) = Value.bool true from rfl, iteV_true]
        by_cases hs : scalar (scV (EvT t y)) = true
        ·simp only [hs, if_true]; rfl
        ·simp only [hs]; rfl
     | _ => rfl
   | _ => rfl
 | _ => rfl
theorem ex_sliceStr {lo hi : Option Operand} (hx : okC x = true) (hl : ∀ x, lo = some x → okC x = true) (hh : ∀ x, hi = some x → okC x = true) : ex E (.c (.ops (⟨some d, r, .sliceStr x lo hi, none, ann, io⟩ :: l)) :: K) t = go1 E (ssT (EvT t x) (lo.map (EvT t)) (hi.map (EvT t))) d t l K := by
 rw [ex_step rfl]
 simp only [evalW, opW, isSc, if_true, aOp, EvT_scT (okC_at hx), bound_I hl, bound_I hh, ssT]
 cases scV (EvT t x) <;> first | rfl | skip
 simp only
 rename_i s
 cases boundI s.size s.size (hi.map (EvT t)) with
 | none => rfl
 | some q =>
   simp only
   cases boundI 0 q (lo.map (EvT t)) <;> rfl
end
section
@[simp] theorem ex_bin_tt {op : BinOp} {u : Nat} {v : Nat} : ex E (.c (.ops (⟨some d, r, .bin op (.tmp u) (.tmp v), none, ann, io⟩ :: l)) :: K) t = go1 E (binT op (EvT t (.tmp u)) (EvT t (.tmp v))) d t l K := ex_bin rfl rfl
@[simp] theorem ex_bin_ti {op : BinOp} {u : Nat} {kv : IntKind} {v : Int} : ex E (.c (.ops (⟨some d, r, .bin op (.tmp u) (.const (.int kv v)), none, ann, io⟩ :: l)) :: K) t = go1 E (binT op (EvT t (.tmp u)) (EvT t (.const (.int kv v)))) d t l K := ex_bin rfl rfl
@[simp] theorem ex_bin_it {op : BinOp} {ku : IntKind} {u : Int} {v : Nat} : ex E (.c (.ops (⟨some d, r, .bin op (.const (.int ku u)) (.tmp v), none, ann, io⟩ :: l)) :: K) t = go1 E (binT op (EvT t (.const (.int ku u))) (EvT t (.tmp v))) d t l K := ex_bin rfl rfl
@[simp] theorem ex_bin_ts {op : BinOp} {u : Nat} {v : ByteArray} : ex E (.c (.ops (⟨some d, r, .bin op (.tmp u) (.const (.string v)), none, ann, io⟩ :: l)) :: K) t = go1 E (binT op (EvT t (.tmp u)) (EvT t (.const (.string v)))) d t l K := ex_bin rfl rfl
@[simp] theorem ex_bin_st {op : BinOp} {u : ByteArray} {v : Nat} : ex E (.c (.ops (⟨some d, r, .bin op (.const (.string u)) (.tmp v), none, ann, io⟩ :: l)) :: K) t = go1 E (binT op (EvT t (.const (.string u))) (EvT t (.tmp v))) d t l K := ex_bin rfl rfl
@[simp] theorem ex_bin_ii {op : BinOp} {ku : IntKind} {u : Int} {kv : IntKind} {v : Int} : ex E (.c (.ops (⟨some d, r, .bin op (.const (.int ku u)) (.const (.int kv v)), none, ann, io⟩ :: l)) :: K) t = go1 E (binT op (EvT t (.const (.int ku u))) (EvT t (.const (.int kv v)))) d t l K := ex_bin rfl rfl
@[simp] theorem ex_binB_tt {op : BinOp} {u : Nat} {v : Nat} : ex E (.c (.ops (⟨some d, r, .binB op (.tmp u) (.tmp v), none, ann, io⟩ :: l)) :: K) t = go1 E (bbT op (EvT t (.tmp u)) (EvT t (.tmp v))) d t l K := ex_binB rfl rfl
@[simp] theorem ex_binB_tb {op : BinOp} {u : Nat} {v : Bool} : ex E (.c (.ops (⟨some d, r, .binB op (.tmp u) (.const (.bool v)), none, ann, io⟩ :: l)) :: K) t = go1 E (bbT op (EvT t (.tmp u)) (EvT t (.const (.bool v)))) d t l K := ex_binB rfl rfl
@[simp] theorem ex_binB_bt {op : BinOp} {u : Bool} {v : Nat} : ex E (.c (.ops (⟨some d, r, .binB op (.const (.bool u)) (.tmp v), none, ann, io⟩ :: l)) :: K) t = go1 E (bbT op (EvT t (.const (.bool u))) (EvT t (.tmp v))) d t l K := ex_binB rfl rfl
@[simp] theorem ex_un_t {op : UnOp} {u : Nat} : ex E (.c (.ops (⟨some d, r, .un op (.tmp u), none, ann, io⟩ :: l)) :: K) t = go1 E (unT op (EvT t (.tmp u))) d t l K := ex_un rfl
@[simp] theorem ex_convInt_t {k : IntKind} {u : Nat} : ex E (.c (.ops (⟨some d, r, .convInt k (.tmp u), none, ann, io⟩ :: l)) :: K) t = go1 E (cvT k (EvT t (.tmp u))) d t l K := ex_convInt rfl
@[simp] theorem ex_convInt_i {k : IntKind} {ku : IntKind} {u : Int} : ex E (.c (.ops (⟨some d, r, .convInt k (.const (.int ku u)), none, ann, io⟩ :: l)) :: K) t = go1 E (cvT k (EvT t (.const (.int ku u)))) d t l K := ex_convInt rfl
@[simp] theorem ex_convStr_t {u : Nat} : ex E (.c (.ops (⟨some d, r, .convStr (.tmp u), none, ann, io⟩ :: l)) :: K) t = go1 E (csT (EvT t (.tmp u))) d t l K := ex_convStr rfl
@[simp] theorem ex_convStr_s {u : ByteArray} : ex E (.c (.ops (⟨some d, r, .convStr (.const (.string u)), none, ann, io⟩ :: l)) :: K) t = go1 E (csT (EvT t (.const (.string u)))) d t l K := ex_convStr rfl
@[simp] theorem ex_lenStr_t {u : Nat} : ex E (.c (.ops (⟨some d, r, .lenStr (.tmp u), none, ann, io⟩ :: l)) :: K) t = go1 E (lsT (EvT t (.tmp u))) d t l K := ex_lenStr rfl
@[simp] theorem ex_lenStr_s {u : ByteArray} : ex E (.c (.ops (⟨some d, r, .lenStr (.const (.string u)), none, ann, io⟩ :: l)) :: K) t = go1 E (lsT (EvT t (.const (.string u)))) d t l K := ex_lenStr rfl
@[simp] theorem ex_idxStr_tt {u : Nat} {v : Nat} : ex E (.c (.ops (⟨some d, r, .idxStr (.tmp u) (.tmp v), none, ann, io⟩ :: l)) :: K) t = go1 E (isT (EvT t (.tmp u)) (EvT t (.tmp v))) d t l K := ex_idxStr rfl rfl
@[simp] theorem ex_idxStr_ti {u : Nat} {kv : IntKind} {v : Int} : ex E (.c (.ops (⟨some d, r, .idxStr (.tmp u) (.const (.int kv v)), none, ann, io⟩ :: l)) :: K) t = go1 E (isT (EvT t (.tmp u)) (EvT t (.const (.int kv v)))) d t l K := ex_idxStr rfl rfl
@[simp] theorem ex_idxStr_st {u : ByteArray} {v : Nat} : ex E (.c (.ops (⟨some d, r, .idxStr (.const (.string u)) (.tmp v), none, ann, io⟩ :: l)) :: K) t = go1 E (isT (EvT t (.const (.string u))) (EvT t (.tmp v))) d t l K := ex_idxStr rfl rfl
@[simp] theorem ex_max2_tt {u : Nat} {v : Nat} : ex E (.c (.ops (⟨some d, r, .max2 (.tmp u) (.tmp v), none, ann, io⟩ :: l)) :: K) t = go1 E (mxT (EvT t (.tmp u)) (EvT t (.tmp v))) d t l K := ex_max2 rfl rfl
@[simp] theorem ex_max2_ti {u : Nat} {kv : IntKind} {v : Int} : ex E (.c (.ops (⟨some d, r, .max2 (.tmp u) (.const (.int kv v)), none, ann, io⟩ :: l)) :: K) t = go1 E (mxT (EvT t (.tmp u)) (EvT t (.const (.int kv v)))) d t l K := ex_max2 rfl rfl
@[simp] theorem ex_max2_it {ku : IntKind} {u : Int} {v : Nat} : ex E (.c (.ops (⟨some d, r, .max2 (.const (.int ku u)) (.tmp v), none, ann, io⟩ :: l)) :: K) t = go1 E (mxT (EvT t (.const (.int ku u))) (EvT t (.tmp v))) d t l K := ex_max2 rfl rfl
@[simp] theorem ex_min2_tt {u : Nat} {v : Nat} : ex E (.c (.ops (⟨some d, r, .min2 (.tmp u) (.tmp v), none, ann, io⟩ :: l)) :: K) t = go1 E (mnT (EvT t (.tmp u)) (EvT t (.tmp v))) d t l K := ex_min2 rfl rfl
@[simp] theorem ex_min2_ti {u : Nat} {kv : IntKind} {v : Int} : ex E (.c (.ops (⟨some d, r, .min2 (.tmp u) (.const (.int kv v)), none, ann, io⟩ :: l)) :: K) t = go1 E (mnT (EvT t (.tmp u)) (EvT t (.const (.int kv v)))) d t l K := ex_min2 rfl rfl
@[simp] theorem ex_min2_it {ku : IntKind} {u : Int} {v : Nat} : ex E (.c (.ops (⟨some d, r, .min2 (.const (.int ku u)) (.tmp v), none, ann, io⟩ :: l)) :: K) t = go1 E (mnT (EvT t (.const (.int ku u))) (EvT t (.tmp v))) d t l K := ex_min2 rfl rfl
@[simp] theorem ex_pick_ttt {u : Nat} {v : Nat} {w : Nat} : ex E (.c (.ops (⟨some d, r, .pick (.tmp u) (.tmp v) (.tmp w), none, ann, io⟩ :: l)) :: K) t = go1 E (pkT (EvT t (.tmp u)) (EvT t (.tmp v)) (EvT t (.tmp w))) d t l K := ex_pick rfl rfl rfl
@[simp] theorem ex_pick_ttb {u : Nat} {v : Nat} {w : Bool} : ex E (.c (.ops (⟨some d, r, .pick (.tmp u) (.tmp v) (.const (.bool w)), none, ann, io⟩ :: l)) :: K) t = go1 E (pkT (EvT t (.tmp u)) (EvT t (.tmp v)) (EvT t (.const (.bool w)))) d t l K := ex_pick rfl rfl rfl
@[simp] theorem ex_pick_tbt {u : Nat} {v : Bool} {w : Nat} : ex E (.c (.ops (⟨some d, r, .pick (.tmp u) (.const (.bool v)) (.tmp w), none, ann, io⟩ :: l)) :: K) t = go1 E (pkT (EvT t (.tmp u)) (EvT t (.const (.bool v))) (EvT t (.tmp w))) d t l K := ex_pick rfl rfl rfl
@[simp] theorem ex_sliceStr_nn {u : Nat}   : ex E (.c (.ops (⟨some d, r, .sliceStr (.tmp u) none none, none, ann, io⟩ :: l)) :: K) t = go1 E (ssT (t u) (Option.map (EvT t) none) (Option.map (EvT t) none)) d t l K := ex_sliceStr rfl (fun _ h => by cases h <;> rfl) (fun _ h => by cases h <;> rfl)
@[simp] theorem ex_sliceStr_nt {u : Nat}  {w : Nat} : ex E (.c (.ops (⟨some d, r, .sliceStr (.tmp u) none (some (.tmp w)), none, ann, io⟩ :: l)) :: K) t = go1 E (ssT (t u) (Option.map (EvT t) none) (Option.map (EvT t) (some (.tmp w)))) d t l K := ex_sliceStr rfl (fun _ h => by cases h <;> rfl) (fun _ h => by cases h <;> rfl)
@[simp] theorem ex_sliceStr_ni {u : Nat}  {kw : IntKind} {w : Int} : ex E (.c (.ops (⟨some d, r, .sliceStr (.tmp u) none (some (.const (.int kw w))), none, ann, io⟩ :: l)) :: K) t = go1 E (ssT (t u) (Option.map (EvT t) none) (Option.map (EvT t) (some (.const (.int kw w))))) d t l K := ex_sliceStr rfl (fun _ h => by cases h <;> rfl) (fun _ h => by cases h <;> rfl)
@[simp] theorem ex_sliceStr_tn {u : Nat} {v : Nat}  : ex E (.c (.ops (⟨some d, r, .sliceStr (.tmp u) (some (.tmp v)) none, none, ann, io⟩ :: l)) :: K) t = go1 E (ssT (t u) (Option.map (EvT t) (some (.tmp v))) (Option.map (EvT t) none)) d t l K := ex_sliceStr rfl (fun _ h => by cases h <;> rfl) (fun _ h => by cases h <;> rfl)
@[simp] theorem ex_sliceStr_tt {u : Nat} {v : Nat} {w : Nat} : ex E (.c (.ops (⟨some d, r, .sliceStr (.tmp u) (some (.tmp v)) (some (.tmp w)), none, ann, io⟩ :: l)) :: K) t = go1 E (ssT (t u) (Option.map (EvT t) (some (.tmp v))) (Option.map (EvT t) (some (.tmp w)))) d t l K := ex_sliceStr rfl (fun _ h => by cases h <;> rfl) (fun _ h => by cases h <;> rfl)
@[simp] theorem ex_sliceStr_ti {u : Nat} {v : Nat} {kw : IntKind} {w : Int} : ex E (.c (.ops (⟨some d, r, .sliceStr (.tmp u) (some (.tmp v)) (some (.const (.int kw w))), none, ann, io⟩ :: l)) :: K) t = go1 E (ssT (t u) (Option.map (EvT t) (some (.tmp v))) (Option.map (EvT t) (some (.const (.int kw w))))) d t l K := ex_sliceStr rfl (fun _ h => by cases h <;> rfl) (fun _ h => by cases h <;> rfl)
@[simp] theorem ex_sliceStr_in {u : Nat} {kv : IntKind} {v : Int}  : ex E (.c (.ops (⟨some d, r, .sliceStr (.tmp u) (some (.const (.int kv v))) none, none, ann, io⟩ :: l)) :: K) t = go1 E (ssT (t u) (Option.map (EvT t) (some (.const (.int kv v)))) (Option.map (EvT t) none)) d t l K := ex_sliceStr rfl (fun _ h => by cases h <;> rfl) (fun _ h => by cases h <;> rfl)
@[simp] theorem ex_sliceStr_it {u : Nat} {kv : IntKind} {v : Int} {w : Nat} : ex E (.c (.ops (⟨some d, r, .sliceStr (.tmp u) (some (.const (.int kv v))) (some (.tmp w)), none, ann, io⟩ :: l)) :: K) t = go1 E (ssT (t u) (Option.map (EvT t) (some (.const (.int kv v)))) (Option.map (EvT t) (some (.tmp w)))) d t l K := ex_sliceStr rfl (fun _ h => by cases h <;> rfl) (fun _ h => by cases h <;> rfl)
@[simp] theorem ex_sliceStr_ii {u : Nat} {kv : IntKind} {v : Int} {kw : IntKind} {w : Int} : ex E (.c (.ops (⟨some d, r, .sliceStr (.tmp u) (some (.const (.int kv v))) (some (.const (.int kw w))), none, ann, io⟩ :: l)) :: K) t = go1 E (ssT (t u) (Option.map (EvT t) (some (.const (.int kv v)))) (Option.map (EvT t) (some (.const (.int kw w))))) d t l K := ex_sliceStr rfl (fun _ h => by cases h <;> rfl) (fun _ h => by cases h <;> rfl)
end
section
variable {x y : Operand}
attribute [simp] isBld
theorem ex_opP {op : AOp} {o : Option Nat} (hs : isSc op = false) (hc : (∀ f a, op ≠ .call f a) ∧ isBld op = false) : ex E (.c (.ops (⟨o, r, op, none, ann, io⟩ :: l)) :: K) t = goP E (opW r ann op t) o l K := by
 rw [ex_step rfl]
 have : evalW E.tbl (callV E) ⟨o, r, op, none, ann, io⟩ t = opW r ann op t := by
  unfold evalW
  split
  ·rename_i f a h; exact absurd h (hc.1 f a)
  ·simp only [hc.2, Bool.false_eq_true, if_false]
 rw [this]
def mvV (r : Bool) (ann : List (Nat × Nat)) (t : TT) (i : Nat) (v : TV) : Option (TV × TT) :=
 match v with
 | .own n s cs => if r then some (.own n s cs, setR t i .undef) else some (.slc i none 0 n s, t)
 | .box cs => if r then some (.box cs, setR t i .undef) else some (.ref i none 0, t)
 | .tup l => some (.tup l, setR t i .undef)
 | .undef => none
 | .hbox _ => none
 | v => some (v, t)
@[simp] theorem mvV_val {i : Nat} {p : PV} : mvV r ann t i (.val p) = some (.val p, t) := rfl
@[simp] theorem mvV_skip {i : Nat} : mvV r ann t i .skip = some (.skip, t) := rfl
@[simp] theorem mvV_own1 {i n s : Nat} {cs : List PV} : mvV true ann t i (.own n s cs) = some (.own n s cs, setR t i .undef) := rfl
@[simp] theorem mvV_own0 {i n s : Nat} {cs : List PV} : mvV false ann t i (.own n s cs) = some (.slc i none 0 n s, t) := rfl
@[simp] theorem mvV_box1 {i : Nat} {cs : List CV} : mvV true ann t i (.box cs) = some (.box cs, setR t i .undef) := rfl
@[simp] theorem mvV_box0 {i : Nat} {cs : List CV} : mvV false ann t i (.box cs) = some (.ref i none 0, t) := rfl
@[simp] theorem mvV_tup {i : Nat} {cs : List CV} : mvV r ann t i (.tup cs) = some (.tup cs, setR t i .undef) := rfl
@[simp] theorem mvV_ref {i k off : Nat} {c : Option Nat} : mvV r ann t i (.ref k c off) = some (.ref k c off, t) := rfl
@[simp] theorem mvV_slc {i k off n s : Nat} {c : Option Nat} : mvV r ann t i (.slc k c off n s) = some (.slc k c off n s, t) := rfl
@[simp] theorem mvV_pf {i off : Nat} {cs : List PV} : mvV r ann t i (.pf cs off) = some (.pf cs off, t) := rfl
@[simp] theorem mvV_clo {i f : Nat} {caps : List (Nat ⊕ PV)} : mvV r ann t i (.clo f caps) = some (.clo f caps, t) := rfl
@[simp] theorem ex_move {i : Nat} {o : Option Nat} : ex E (.c (.ops (⟨o, r, .move (.tmp i), none, ann, io⟩ :: l)) :: K) t = goP E (mvV r ann t i (t i)) o l K := by
  rw [ex_opP rfl (by simp)]; rfl
@[simp] theorem ex_moveC {v : Value} {o : Option Nat} : ex E (.c (.ops (⟨o, r, .move (.const v), none, ann, io⟩ :: l)) :: K) t = goP E (mvW r ann t (.const v)) o l K := by
  rw [ex_opP rfl (by simp)]; rfl
@[simp] theorem ex_moveF {f : Nat} {o : Option Nat} : ex E (.c (.ops (⟨o, r, .move (.func f), none, ann, io⟩ :: l)) :: K) t = goP E (some (.val (.sc (.func (.func f) #[] #[])), t)) o l K := by
  rw [ex_opP rfl (by simp)]; rfl
@[simp] theorem mvC_int {k : IntKind} {a : Int} : mvW r ann t (.const (.int k a)) = some (ti k a, t) := rfl
@[simp] theorem mvC_bool {b : Bool} : mvW r ann t (.const (.bool b)) = some (tb b, t) := rfl
@[simp] theorem mvC_str {b : ByteArray} : mvW r ann t (.const (.string b)) = some (ts b, t) := rfl
@[simp] theorem mvC_nilF : mvW r ann t (.const .nilFunc) = some (.val (.sc .nilFunc), t) := rfl
@[simp] theorem mvC_nil0 : mvW r [] t (.const (.slice none 0 0)) = some (.val (.sl 0 []), t) := rfl
@[simp] theorem mvC_nil1 {j s : Nat} {l : List (Nat × Nat)} : mvW r ((j, s) :: l) t (.const (.slice none 0 0)) = some (.own 0 s [], t) := rfl
def plcV (i : Nat) : TV → Option (Nat × Option Nat × Nat)
 | .box _ => some (i, none, 0)
 | .ref k c off => some (k, c, off)
 | _ => none
@[simp] theorem plc_tmp {i : Nat} : plc t (.tmp i) = plcV i (t i) := rfl
@[simp] theorem plc_const {v : Value} : plc t (.const v) = none := rfl
@[simp] theorem plcV_box {i : Nat} {cs : List CV} : plcV i (.box cs) = some (i, none, 0) := rfl
@[simp] theorem plcV_ref {i k off : Nat} {c : Option Nat} : plcV i (.ref k c off) = some (k, c, off) := rfl
@[simp] theorem plcV_val {i : Nat} {p : PV} : plcV i (.val p) = none := rfl
@[simp] theorem plcV_own {i n s : Nat} {cs : List PV} : plcV i (.own n s cs) = none := rfl
@[simp] theorem plcV_slc {i k off n s : Nat} {c : Option Nat} : plcV i (.slc k c off n s) = none := rfl
@[simp] theorem plcV_pf {i off : Nat} {cs : List PV} : plcV i (.pf cs off) = none := rfl
@[simp] theorem plcV_clo {i f : Nat} {caps : List (Nat ⊕ PV)} : plcV i (.clo f caps) = none := rfl
def plcSV (i : Nat) : TV → Option (Nat × Option Nat × Nat × Nat × Nat)
 | .own n s _ => some (i, none, 0, n, s)
 | .slc k c off n s => some (k, c, off, n, s)
 | _ => none
@[simp] theorem plcS_tmp {i : Nat} : plcS t (.tmp i) = plcSV i (t i) := rfl
@[simp] theorem plcS_const {v : Value} : plcS t (.const v) = none := rfl
@[simp] theorem plcSV_own {i n s : Nat} {cs : List PV} : plcSV i (.own n s cs) = some (i, none, 0, n, s) := rfl
@[simp] theorem plcSV_slc {i k off n s : Nat} {c : Option Nat} : plcSV i (.slc k c off n s) = some (k, c, off, n, s) := rfl
@[simp] theorem plcSV_val {i : Nat} {p : PV} : plcSV i (.val p) = none := rfl
def rdV (c : Option Nat) (v : TV) (off m s : Nat) : Option (List PV) :=
 match c, v with
 | none, .own n s' cs => if s' = s then sub n s cs off m else none
 | none, .box cs => if off + m * s ≤ cs.length then unv ((cs.drop off).take (m * s)) else none
 | some j, .box cs => match cellC cs j with
   | some (.o n s' l) => if s' = s then sub n s l off m else none
   | _ => none
 | _, _ => none
theorem rdSlc_V {k off m s : Nat} {c : Option Nat} : rdSlc t k c off m s = rdV c (t k) off m s := by
 unfold rdSlc rdV
 cases c <;> cases t k <;> rfl
attribute [simp] rdSlc_V
@[simp] theorem sub_all {n s : Nat} {cs : List PV} : sub n s cs 0 n = some cs := by simp [sub]
@[simp low] theorem sub_some {n s m off : Nat} {cs : List PV} (hl : n * s = cs.length) (h : off + m * s ≤ cs.length) : sub n s cs off m = some ((cs.drop off).take (m * s)) := by
  unfold sub
  rw [if_pos h]
  split
  ·rename_i h2
   obtain ⟨rfl, rfl⟩ := h2
   rw [List.drop_zero, hl, List.take_length]
  ·rfl
@[simp] theorem rdV_own {n s m off : Nat} {cs : List PV} : rdV none (.own n s cs) off m s = sub n s cs off m := by simp [rdV]
@[simp] theorem rdV_box {cs : List CV} {off m s : Nat} : rdV none (.box cs) off m s = if off + m * s ≤ cs.length then unv ((cs.drop off).take (m * s)) else none := rfl
@[simp] theorem rdV_cell {cs : List CV} {j off m s : Nat} : rdV (some j) (.box cs) off m s = match cellC cs j with
 | some (.o n s' l) => if s' = s then sub n s l off m else none
 | _ => none := rfl
def slvV (t : TT) : TV → Option (Nat × List PV)
 | .val (.sl n cs) => some (n, cs)
 | .val (.sc (.slice none 0 0)) => some (0, [])
 | .own n _ cs => some (n, cs)
 | .slc k c off n s => (rdSlc t k c off n s).map fun cs => (n, cs)
 | _ => none
@[simp] theorem slv_V : slv t x = slvV t (EvT t x) := by
  unfold slv slvV
  generalize EvT t x = v
  cases v <;> rfl
@[simp] theorem slvV_val {n : Nat} {cs : List PV} : slvV t (.val (.sl n cs)) = some (n, cs) := rfl
@[simp] theorem slvV_nil : slvV t (.val (.sc (.slice none 0 0))) = some (0, []) := rfl
@[simp] theorem slvV_own {n s : Nat} {cs : List PV} : slvV t (.own n s cs) = some (n, cs) := rfl
@[simp] theorem slvV_slc {k off n s : Nat} {c : Option Nat} : slvV t (.slc k c off n s) = (rdSlc t k c off n s).map fun cs => (n, cs) := rfl
@[simp] theorem slLen_val {n : Nat} {cs : List PV} : slLen (.val (.sl n cs)) = some n := rfl
@[simp] theorem slLen_nil : slLen (.val (.sc (.slice none 0 0))) = some 0 := rfl
@[simp] theorem slLen_own {n s : Nat} {cs : List PV} : slLen (.own n s cs) = some n := rfl
@[simp] theorem slLen_slc {k off n s : Nat} {c : Option Nat} : slLen (.slc k c off n s) = some n := rfl
@[simp] theorem ex_len : ex E (.c (.ops (⟨some d, r, .len x, none, ann, io⟩ :: l)) :: K) t = go1 E ((slLen (EvT t x)).map fun (n : Nat) => ti .i64 n) d t l K := by
  rw [ex_opP rfl (by simp), ← go_map, Option.map_map]; rfl
@[simp] theorem ex_nilv {neg : Bool} : ex E (.c (.ops (⟨some d, r, .nilv neg x, none, ann, io⟩ :: l)) :: K) t = goP E (opW r ann (.nilv neg x) t) (some d) l K := ex_opP rfl (by simp)
@[simp] theorem opW_nilv {neg : Bool} : opW r ann (.nilv neg x) t = match slLen (EvT t x) with
 | some n => if 0 < n then some (tb (neg != false), t) else none
 | none => none := rfl
def ldV (t : TT) (p : Nat × Option Nat × Nat) : Option TV :=
 match p with
 | (k, none, off) => match t k with
   | .box cs => match cellC cs off with
     | some (.v p) => some (.val p)
     | some (.o n s _) => some (.slc k (some off) 0 n s)
     | _ => none
   | .own _ _ cs => (cellP cs off).map .val
   | _ => none
 | (k, some j, off) => match t k with
   | .box cs => match cellC cs j with
     | some (.o _ _ l) => (cellP l off).map .val
     | _ => none
   | _ => none
def ldT (t : TT) (i : Nat) : TV → Option TV
 | .pf cs off => (cellP cs off).map .val
 | .box cs => ldV t (i, none, 0)
 | .ref k c off => ldV t (k, c, off)
 | _ => none
theorem ld1_T {i : Nat} : ld1 t (.tmp i) = ldT t i (t i) := by
 unfold ld1 ldT
 simp only [EvT, plc]
 cases ht : t i with
 | ref k c off => cases c <;> simp only [ldV] <;> rfl
 | box cs => simp only [ldV, ht]; rfl
 | _ => rfl
@[simp] theorem ex_load1 {i : Nat} : ex E (.c (.ops (⟨some d, r, .load none (.tmp i), none, ann, io⟩ :: l)) :: K) t = go1 E (ldT t i (t i)) d t l K := by
  rw [ex_opP rfl (by simp), ← go_map, ← ld1_T]; rfl
@[simp] theorem ldT_pf {i off : Nat} {cs : List PV} : ldT t i (.pf cs off) = (cellP cs off).map .val := rfl
@[simp] theorem ldT_box {i : Nat} {cs : List CV} : ldT t i (.box cs) = ldV t (i, none, 0) := rfl
@[simp] theorem ldT_ref {i k off : Nat} {c : Option Nat} : ldT t i (.ref k c off) = ldV t (k, c, off) := rfl
def ldB (k off : Nat) : TV → Option TV
 | .box cs => match cellC cs off with
   | some (.v p) => some (.val p)
   | some (.o n s _) => some (.slc k (some off) 0 n s)
   | _ => none
 | .own _ _ cs => (cellP cs off).map .val
 | _ => none
def ldN' (j off : Nat) : TV → Option TV
 | .box cs => match cellC cs j with
   | some (.o _ _ l) => (cellP l off).map .val
   | _ => none
 | _ => none
@[simp] theorem ldV_0 {k off : Nat} : ldV t (k, none, off) = ldB k off (t k) := by
  simp only [ldV, ldB]
@[simp] theorem ldV_1 {k j off : Nat} : ldV t (k, some j, off) = ldN' j off (t k) := by
  simp only [ldV, ldN']
def ldC (k off : Nat) : Option CV → Option TV
 | some (.v p) => some (.val p)
 | some (.o n s _) => some (.slc k (some off) 0 n s)
 | _ => none
@[simp] theorem ldB_box {k off : Nat} {cs : List CV} : ldB k off (.box cs) = ldC k off (cellC cs off) := by
  unfold ldB ldC; rfl
@[simp] theorem ldC_v {k off : Nat} {p : PV} : ldC k off (some (.v p)) = some (.val p) := rfl
@[simp] theorem ldC_o {k off n s : Nat} {cs : List PV} : ldC k off (some (.o n s cs)) = some (.slc k (some off) 0 n s) := rfl
@[simp] theorem ldB_own {k off n s : Nat} {cs : List PV} : ldB k off (.own n s cs) = (cellP cs off).map .val := rfl
@[simp] theorem ldN_box {j off : Nat} {cs : List CV} : ldN' j off (.box cs) = match cellC cs j with
 | some (.o _ _ l) => (cellP l off).map .val
 | _ => none := rfl
@[simp] theorem cellC_zero {c : CV} {l : List CV} : cellC (c :: l) 0 = some c := rfl
@[simp] theorem cellC_succ {c : CV} {l : List CV} {i : Nat} : cellC (c :: l) (i + 1) = cellC l i := by simp [cellC]
@[simp] theorem cellC_lit {c : CV} {l : List CV} {i : Nat} [h : NeZero i] : cellC (c :: l) i = cellC l (i - 1) := by
  obtain ⟨j, hj⟩ := Nat.exists_eq_succ_of_ne_zero h.out
  subst hj
  simp [cellC]
@[simp] theorem cellP_zero {c : PV} {l : List PV} : cellP (c :: l) 0 = some c := rfl
@[simp] theorem cellP_succ {c : PV} {l : List PV} {i : Nat} : cellP (c :: l) (i + 1) = cellP l i := by simp [cellP]
def shT (i n : Nat) : TV → Option TV
 | .pf cs o => some (.pf cs (o + n))
 | .box _ => some (.ref i none n)
 | .ref k c off => some (.ref k c (off + n))
 | _ => none
@[simp] theorem shT_pf {i n o : Nat} {cs : List PV} : shT i n (.pf cs o) = some (.pf cs (o + n)) := rfl
@[simp] theorem shT_box {i n : Nat} {cs : List CV} : shT i n (.box cs) = some (.ref i none n) := rfl
@[simp] theorem shT_ref {i n k off : Nat} {c : Option Nat} : shT i n (.ref k c off) = some (.ref k c (off + n)) := rfl
theorem shT_eq {i n : Nat} : (match t i with | .pf cs o => some (TV.pf cs (o + n), t) | _ => (plc t (.tmp i)).map fun p => (TV.ref p.1 p.2.1 (p.2.2 + n), t)) = (shT i n (t i)).map fun v => (v, t) := by
 simp only [plc, shT]
 cases t i <;> simp
@[simp] theorem ex_fieldAddr {off i : Nat} : ex E (.c (.ops (⟨some d, r, .fieldAddr off (.tmp i), none, ann, io⟩ :: l)) :: K) t = go1 E (shT i off (t i)) d t l K := by
  rw [ex_opP rfl (by simp), ← go_map, ← shT_eq]; rfl
@[simp] theorem ex_idxAddrArr {n size i : Nat} : ex E (.c (.ops (⟨some d, r, .idxAddrArr n size (.tmp i) y, none, ann, io⟩ :: l)) :: K) t = go1 E (match EvT t y with | .val (.sc (.int _ j)) => if 0 ≤ j ∧ j < n then shT i (j.toNat * size) (t i) else none | _ => none) d t l K := by
  rw [ex_opP rfl (by simp), ← go_map]
  congr 1
  have hop : opW r ann (.idxAddrArr n size (.tmp i) y) t = match EvT t y with
   | .val (.sc (.int _ j)) => if 0 ≤ j ∧ j < n then match t i with
    | .pf cs o => some (.pf cs (o + j.toNat * size), t)
    | _ => (plc t (.tmp i)).map fun p => (.ref p.1 p.2.1 (p.2.2 + j.toNat * size), t)
     else none
   | _ => none := rfl
  rw [hop]
  cases EvT t y with
  | val p => cases p with
    | sc v => cases v with
      | int k j =>
        simp only
        split
        ·exact shT_eq
        ·rfl
      | _ => rfl
    | _ => rfl
  | _ => rfl
def ixT (size i : Nat) (v w : TV) : Option TV :=
 match w with
 | .val (.sc (.int _ j)) => match v with
   | .val (.sl n cs) => if 0 ≤ j ∧ j < n ∧ n * size = cs.length then some (.pf cs (j.toNat * size)) else none
   | .own n s _ => if 0 ≤ j ∧ j < n ∧ s = size then some (.ref i none (0 + j.toNat * size)) else none
   | .slc k c off n s => if 0 ≤ j ∧ j < n ∧ s = size then some (.ref k c (off + j.toNat * size)) else none
   | _ => none
 | _ => none
@[simp] theorem ex_idxAddrSl {size i : Nat} : ex E (.c (.ops (⟨some d, r, .idxAddrSl size (.tmp i) y, none, ann, io⟩ :: l)) :: K) t = go1 E (ixT size i (t i) (EvT t y)) d t l K := by
  rw [ex_opP rfl (by simp), ← go_map]
  congr 1
  have hop : opW r ann (.idxAddrSl size (.tmp i) y) t = match EvT t y with
   | .val (.sc (.int _ j)) => match t i with
     | .val (.sl n cs) => if 0 ≤ j ∧ j < n ∧ n * size = cs.length then some (.pf cs (j.toNat * size), t) else none
     | _ => match plcS t (.tmp i) with
       | some (k, c, off, n, s) => if 0 ≤ j ∧ j < n ∧ s = size then some (.ref k c (off + j.toNat * size), t) else none
       | none => none
   | _ => none := rfl
  rw [hop]
  simp only [plcS, ixT]
  cases EvT t y with
  | val p => cases p with
    | sc v => cases v with
      | int k j =>
        cases t i with
        | val q => cases q with
          | sl n cs => simp only; split <;> rfl
          | _ => rfl
        | own n s cs => simp only; split <;> rfl
        | slc k c off n s => simp only; split <;> rfl
        | _ => rfl
      | _ => rfl
    | _ => rfl
  | _ => rfl
@[simp] theorem ixT_val {size i n : Nat} {k : IntKind} {j : Int} {cs : List PV} (h0 : 0 ≤ j) (h1 : j < n) (h2 : n * size = cs.length) : ixT size i (.val (.sl n cs)) (ti k j) = some (.pf cs (j.toNat * size)) := by
  simp only [ixT]; rw [if_pos ⟨h0, h1, h2⟩]
@[simp] theorem ixT_own {size i n : Nat} {k : IntKind} {j : Int} {cs : List PV} (h0 : 0 ≤ j) (h1 : j < n) : ixT size i (.own n size cs) (ti k j) = some (.ref i none (j.toNat * size)) := by
  simp only [ixT]; rw [if_pos ⟨h0, h1, trivial⟩, Nat.zero_add]
@[simp] theorem ixT_slc {size i n k' off : Nat} {c : Option Nat} {k : IntKind} {j : Int} (h0 : 0 ≤ j) (h1 : j < n) : ixT size i (.slc k' c off n size) (ti k j) = some (.ref k' c (off + j.toNat * size)) := by
  simp only [ixT]; rw [if_pos ⟨h0, h1, trivial⟩]
def paT (n size i : Nat) (v : TV) : Option TV :=
 match v with
 | .val (.sl m cs) => if 0 < n ∧ n ≤ m ∧ m * size = cs.length then some (.pf cs 0) else none
 | .own m s _ => if 0 < n ∧ n ≤ m ∧ s = size then some (.ref i none 0) else none
 | .slc k c off m s => if 0 < n ∧ n ≤ m ∧ s = size then some (.ref k c off) else none
 | _ => none
@[simp] theorem ex_slArr {n size i : Nat} : ex E (.c (.ops (⟨some d, r, .slArr n size (.tmp i), none, ann, io⟩ :: l)) :: K) t = go1 E (paT n size i (t i)) d t l K := by
  rw [ex_opP rfl (by simp), ← go_map]
  congr 1
  have hop : opW r ann (.slArr n size (.tmp i)) t = match t i with
   | .val (.sl m cs) => if 0 < n ∧ n ≤ m ∧ m * size = cs.length then some (.pf cs 0, t) else none
   | _ => match plcS t (.tmp i) with
     | some (k, c, off, m, s) => if 0 < n ∧ n ≤ m ∧ s = size then some (.ref k c off, t) else none
     | none => none := rfl
  rw [hop]
  simp only [plcS, paT]
  cases t i with
  | val q => cases q with
    | sl m cs => simp only; split <;> rfl
    | _ => rfl
  | own m s cs => simp only; split <;> rfl
  | slc k c off m s => simp only; split <;> rfl
  | _ => rfl
@[simp] theorem paT_val {n size i m : Nat} {cs : List PV} (h0 : 0 < n) (h1 : n ≤ m) (h2 : m * size = cs.length) : paT n size i (.val (.sl m cs)) = some (.pf cs 0) := by
  simp only [paT]; rw [if_pos ⟨h0, h1, h2⟩]
@[simp] theorem paT_own {n size i m : Nat} {cs : List PV} (h0 : 0 < n) (h1 : n ≤ m) : paT n size i (.own m size cs) = some (.ref i none 0) := by
  simp only [paT]; rw [if_pos ⟨h0, h1, trivial⟩]
@[simp] theorem paT_slc {n size i m k' off : Nat} {c : Option Nat} (h0 : 0 < n) (h1 : n ≤ m) : paT n size i (.slc k' c off m size) = some (.ref k' c off) := by
  simp only [paT]; rw [if_pos ⟨h0, h1, trivial⟩]
@[simp] theorem ex_store {n : Option Nat} : ex E (.c (.ops (⟨none, r, .store n x y, none, ann, io⟩ :: l)) :: K) t = goP E (opW r ann (.store n x y) t) none l K := ex_opP rfl (by simp)
@[simp] theorem ex_loadN {m : Nat} : ex E (.c (.ops (⟨some d, r, .load (some m) x, none, ann, io⟩ :: l)) :: K) t = goP E (ldN m t x) (some d) l K := by rw [ex_opP rfl (by simp)]; rfl
@[simp] theorem ex_box : ex E (.c (.ops (⟨some d, r, .box x, none, ann, io⟩ :: l)) :: K) t = goP E (opW r ann (.box x) t) (some d) l K := ex_opP rfl (by simp)
@[simp] theorem ex_alloc {z : List Value} : ex E (.c (.ops (⟨some d, r, .alloc z, none, ann, io⟩ :: l)) :: K) t = goP E ((zcv ann 0 z).map fun cs => (.box cs, t)) (some d) l K := by rw [ex_opP rfl (by simp)]; rfl
@[simp] theorem ex_build {z : List Value} {ps : List (Nat × Nat × Operand)} : ex E (.c (.ops (⟨some d, r, .build z ps, none, ann, io⟩ :: l)) :: K) t = goP E (bldW t (.build z ps)) (some d) l K := by rw [ex_step rfl]; rfl
@[simp] theorem ex_buildSlice {s n : Nat} {z : List Value} {ps : List (Nat × Nat × Operand)} : ex E (.c (.ops (⟨some d, r, .buildSlice s n z ps, none, ann, io⟩ :: l)) :: K) t = goP E (bldW t (.buildSlice s n z ps)) (some d) l K := by rw [ex_step rfl]; rfl
@[simp] theorem ex_makeSlice {s n : Nat} {z : List Value} : ex E (.c (.ops (⟨some d, r, .makeSlice s n z x y, none, ann, io⟩ :: l)) :: K) t = goP E (opW r ann (.makeSlice s n z x y) t) (some d) l K := ex_opP rfl (by simp)
@[simp] theorem ex_strBytes : ex E (.c (.ops (⟨some d, r, .strBytes x, none, ann, io⟩ :: l)) :: K) t = goP E (opW r ann (.strBytes x) t) (some d) l K := ex_opP rfl (by simp)
@[simp] theorem ex_bytesStr : ex E (.c (.ops (⟨some d, r, .bytesStr x, none, ann, io⟩ :: l)) :: K) t = goP E (opW r ann (.bytesStr x) t) (some d) l K := ex_opP rfl (by simp)
@[simp] theorem ex_eqv {neg : Bool} {ks : List CK} : ex E (.c (.ops (⟨some d, r, .eqv neg ks x y, none, ann, io⟩ :: l)) :: K) t = goP E (opW r ann (.eqv neg ks x y) t) (some d) l K := ex_opP rfl (by simp)
@[simp] theorem ex_sliceSl {s : Nat} {lo hi : Option Operand} : ex E (.c (.ops (⟨some d, r, .sliceSl s x lo hi, none, ann, io⟩ :: l)) :: K) t = goP E (opW r ann (.sliceSl s x lo hi) t) (some d) l K := ex_opP rfl (by simp)
@[simp] theorem ex_sliceArr {n s : Nat} {lo hi : Option Operand} : ex E (.c (.ops (⟨some d, r, .sliceArr n s x lo hi, none, ann, io⟩ :: l)) :: K) t = goP E (opW r ann (.sliceArr n s x lo hi) t) (some d) l K := ex_opP rfl (by simp)
@[simp] theorem ex_field {n : Option Nat} {off : Nat} : ex E (.c (.ops (⟨some d, r, .field n off x, none, ann, io⟩ :: l)) :: K) t = goP E (opW r ann (.field n off x) t) (some d) l K := ex_opP rfl (by simp)
@[simp] theorem ex_idxArr {n : Option Nat} {a b : Nat} : ex E (.c (.ops (⟨some d, r, .idxArr a b n x y, none, ann, io⟩ :: l)) :: K) t = goP E (opW r ann (.idxArr a b n x y) t) (some d) l K := ex_opP rfl (by simp)
@[simp] theorem ex_nilCheck : ex E (.c (.ops (⟨some d, r, .nilCheck x, none, ann, io⟩ :: l)) :: K) t = goP E (opW r ann (.nilCheck x) t) (some d) l K := ex_opP rfl (by simp)
@[simp] theorem ex_nilCheck0 : ex E (.c (.ops (⟨none, r, .nilCheck x, none, ann, io⟩ :: l)) :: K) t = goP E (opW r ann (.nilCheck x) t) none l K := ex_opP rfl (by simp)
@[simp] theorem ex_const {v : Value} : ex E (.c (.ops (⟨some d, r, .const v, none, ann, io⟩ :: l)) :: K) t = goP E (opW r ann (.const v) t) (some d) l K := ex_opP rfl (by simp)
@[simp] theorem ex_append {s b : Nat} : ex E (.c (.ops (⟨some d, r, .append s b x y, none, ann, io⟩ :: l)) :: K) t = goP E (appW s b t x y) (some d) l K := by rw [ex_opP rfl (by simp)]; rfl
@[simp] theorem ex_copy {s : Nat} {o : Option Nat} : ex E (.c (.ops (⟨o, r, .copy s x y, none, ann, io⟩ :: l)) :: K) t = goP E (copyW s t x y) o l K := by rw [ex_opP rfl (by simp)]; rfl
@[simp] theorem ex_func {f : Nat} {cs : List Operand} : ex E (.c (.ops (⟨some d, r, .func (.func f) [] cs, none, ann, io⟩ :: l)) :: K) t = goP E ((capsW t cs).map fun l => (.clo f l, t)) (some d) l K := by rw [ex_opP rfl (by simp)]; rfl
@[simp] theorem ex_extract {k i : Nat} : ex E (.c (.ops (⟨some d, r, .extract (.tmp k) i, none, ann, io⟩ :: l)) :: K) t = goP E (match t k with
 | .tup l => match cellC l i with
   | some (.v p) => some (.val p, t)
   | some (.o n s cs) => some (.own n s cs, setC t k (.tup (l.set i .gone)))
   | _ => none
 | _ => none) (some d) l K := by rw [ex_opP rfl (by simp)]; rfl
@[simp] theorem ex_call {f : String} {args : List Operand} {o : Option Nat} : ex E (.c (.ops (⟨o, r, .call f args, none, ann, io⟩ :: l)) :: K) t = if f = "@dyn" then ex E (.c (.ops (⟨o, r, .call "@dyn" args, none, ann, io⟩ :: l)) :: K) t else goP E (callW (callV E) f io args t) o l K := by
  by_cases hf : f = "@dyn"
  ·rw [if_pos hf, hf]
  ·rw [if_neg hf, ex_step rfl]
   simp only [evalW, if_neg hf]
@[simp] theorem ex_dyn {args : List Operand} {o : Option Nat} : ex E (.c (.ops (⟨o, r, .call "@dyn" (x :: args), none, ann, io⟩ :: l)) :: K) t = goP E (dynW E.tbl (callV E) io x args t) o l K := by
  rw [ex_step rfl]
  simp only [evalW, if_true]
end
end
end Go.Wb
namespace Go.Wb.Code
open Go Go.Wb
abbrev tq (n : Nat) : Operand := .tmp n
abbrev iq (n : Int) : Operand := .const (.int .i64 n)
abbrev oq (d : Nat) (op : AOp) : WOper := ⟨some d, false, op, none, [], []⟩
abbrev sq (op : AOp) : WOper := ⟨none, false, op, none, [], []⟩
abbrev rq (d n : Nat) : WOper := ⟨some d, true, .move (.tmp n), none, [], []⟩
abbrev vq (d n : Nat) : WOper := ⟨some d, false, .move (.tmp n), none, [], []⟩
abbrev gq (d : Nat) (op : AOp) (a : Nat) (b : Bool) : WOper := ⟨some d, false, op, some (a, b), [], []⟩
end Go.Wb.Code
namespace Go.Wb
open Go
def mp {α : Type} (f : α → PV) (l : List α) : List PV := l.map f
abbrev u8P (b : Nat) : PV := .sc (.int .u8 (b : Int))
abbrev bp (l : List Nat) : List PV := mp (fun b : Nat => PV.sc (.int .u8 (b : Int))) l
abbrev kp (k : IntKind) (l : List Int) : List PV := mp (fun b : Int => PV.sc (.int k b)) l
abbrev ip (l : List Int) : List PV := kp .i64 l
section
variable {α : Type} {f : α → PV} {l l' : List α} {i n : Nat} {a : α}
@[simp] theorem mp_nil : mp f [] = [] := rfl
theorem mp_cons : mp f (a :: l) = f a :: mp f l := rfl
@[simp] theorem mp_len : (mp f l).length = l.length := by simp [mp]
@[simp] theorem mp_append : mp f l ++ mp f l' = mp f (l ++ l') := by simp [mp]
@[simp] theorem mp_drop : (mp f l).drop n = mp f (l.drop n) := by simp [mp, List.map_drop]
@[simp] theorem mp_take : (mp f l).take n = mp f (l.take n) := by simp [mp, List.map_take]
theorem mp_set : (mp f l).set n (f a) = mp f (l.set n a) := by simp [mp, List.map_set]
theorem mp_rep : List.replicate n (f a) = mp f (List.replicate n a) := by simp [mp]
theorem cellP_mp [Inhabited α] (h : i < l.length) : cellP (mp f l) i = some (f (l.getD i default)) := by
 simp [cellP, mp, h]
theorem mp_one : [f a] = mp f [a] := rfl
end
section
variable {l : List Nat} {i n : Nat} {a : Nat} {li : List Int} {b : Int} {k : IntKind}
@[simp] theorem cellP_bp (h : i < l.length) : cellP (bp l) i = some (u8P (l.getD i 0)) := cellP_mp h
@[simp] theorem bp_set : (bp l).set n (.sc (.int .u8 (a : Int))) = bp (l.set n a) := mp_set (f := fun b : Nat => PV.sc (.int .u8 (b : Int)))
@[simp] theorem cellP_kp (h : i < li.length) : cellP (kp k li) i = some (.sc (.int k (li.getD i 0))) := cellP_mp h
@[simp] theorem kp_set : (kp k li).set n (.sc (.int k b)) = kp k (li.set n b) := mp_set (f := fun b : Int => PV.sc (.int k b))
@[simp low] theorem bp_setI (h : 0 ≤ b) : (bp l).set n (.sc (.int .u8 b)) = bp (l.set n b.toNat) := by
  have := bp_set (l := l) (n := n) (a := b.toNat)
  rw [show ((b.toNat : Nat) : Int) = b by omega] at this
  exact this
@[simp low] theorem bp_append1I (h : 0 ≤ b) : bp l ++ [.sc (.int .u8 b)] = bp (l ++ [b.toNat]) := by
  have : bp l ++ [.sc (.int .u8 (b.toNat : Int))] = bp (l ++ [b.toNat]) := mp_append (f := fun b : Nat => PV.sc (.int .u8 (b : Int))) (l' := [b.toNat])
  rw [show ((b.toNat : Nat) : Int) = b by omega] at this
  exact this
@[simp] theorem bp_append1 : bp l ++ [.sc (.int .u8 (a : Int))] = bp (l ++ [a]) := mp_append (f := fun b : Nat => PV.sc (.int .u8 (b : Int))) (l' := [a])
@[simp] theorem kp_append1 : kp k li ++ [.sc (.int k b)] = kp k (li ++ [b]) := mp_append (f := fun b : Int => PV.sc (.int k b)) (l' := [b])
end
@[simp] theorem hasRefs_mp {α : Type} {f : α → PV} {l : List α} (h : ∀ x, hasRef (f x) = false) : hasRefs (mp f l) = false := by
  induction l with
  | nil => simp [mp, hasRefs]
  | cons a l ih =>
    rw [mp_cons]
    simp only [hasRefs, h a, ih, Bool.or_false]
@[simp] theorem hasRefs_bp {l : List Nat} : hasRefs (bp l) = false := hasRefs_mp (fun _ => rfl)
@[simp] theorem hasRefs_kp {k : IntKind} {l : List Int} : hasRefs (kp k l) = false := hasRefs_mp (fun _ => rfl)
@[simp] theorem hasRefs_nil : hasRefs [] = false := by simp [hasRefs]
section
variable {E : EnvW} {K : List Fm} {t : TT} {l : List WOper} {d : Nat} {r : Bool} {ann : List (Nat × Nat)} {io : List Nat} {x y : Operand}
def srcT (s : Nat) (t : TT) : TV → Option (Nat × List PV)
 | .val (.sc (.string str)) => if s = 1 then some (str.size, str.data.toList.map fun b => .sc (.int .u8 b.toNat)) else none
 | v => match slvV t v with
     | some (n, cs) => if n * s = cs.length then some (n, cs) else none
     | none => none
@[simp] theorem srcP_T {s : Nat} : srcP s t x = srcT s t (EvT t x) := by
  unfold srcP srcT
  rw [slv_V]
  generalize EvT t x = v
  cases v with
  | val p => cases p with
    | sc v => cases v <;> rfl
    | _ => rfl
  | _ => rfl
def srcQ (s : Nat) : Option (Nat × List PV) → Option (Nat × List PV)
 | some (n, cs) => if n * s = cs.length then some (n, cs) else none
 | none => none
@[simp] theorem srcT_str {s : Nat} {str : ByteArray} : srcT s t (ts str) = if s = 1 then some (str.size, str.data.toList.map fun b => .sc (.int .u8 b.toNat)) else none := rfl
@[simp] theorem srcT_sl {s n : Nat} {cs : List PV} (h : n * s = cs.length) : srcT s t (.val (.sl n cs)) = some (n, cs) := by
  simp only [srcT, slvV]; rw [if_pos h]
@[simp] theorem srcT_own {s s' n : Nat} {cs : List PV} (h : n * s = cs.length) : srcT s t (.own n s' cs) = some (n, cs) := by
  simp only [srcT, slvV]; rw [if_pos h]
@[simp] theorem srcT_slc {s s' n k off : Nat} {c : Option Nat} : srcT s t (.slc k c off n s') = srcQ s ((rdSlc t k c off n s').map fun cs => (n, cs)) := rfl
@[simp] theorem srcQ_some {s n : Nat} {cs : List PV} (h : n * s = cs.length) : srcQ s (some (n, cs)) = some (n, cs) := by
  simp only [srcQ]; rw [if_pos h]
def tkT (z : Nat) (t : TT) (i : Nat) : TV → Option (Nat × Nat × List PV × TT)
 | .own n s cs => some (n, s, cs, setR t i .undef)
 | .val (.sc (.slice none 0 0)) => some (0, z, [], t)
 | .slc k none 0 m s => match t k with
   | .own n s' cs => if m = n ∧ s = s' then some (n, s, cs, setR t k .undef) else none
   | _ => none
 | .slc k (some j) 0 m s => match t k with
   | .box bs => match cellC bs j with
     | some (.o n s' cs) => if m = n ∧ s = s' then some (n, s, cs, setC t k (.box (bs.set j .gone))) else none
     | _ => none
   | _ => none
 | _ => none
@[simp] theorem takeOwn_T {z i : Nat} : takeOwn z t (.tmp i) = tkT z t i (t i) := by
  unfold takeOwn tkT
  rfl
@[simp] theorem tkT_nil {z i : Nat} : tkT z t i (.val (.sc (.slice none 0 0))) = some (0, z, [], t) := rfl
@[simp] theorem tkT_own {z i n s : Nat} {cs : List PV} : tkT z t i (.own n s cs) = some (n, s, cs, setR t i .undef) := rfl
def tkO (t : TT) (k m s : Nat) : TV → Option (Nat × Nat × List PV × TT)
 | .own n s' cs => if m = n ∧ s = s' then some (n, s, cs, setR t k .undef) else none
 | _ => none
@[simp] theorem tkT_slc {z i k m s : Nat} : tkT z t i (.slc k none 0 m s) = tkO t k m s (t k) := by
  simp only [tkT, tkO]
@[simp] theorem tkO_own {k n s : Nat} {cs : List PV} : tkO t k n s (.own n s cs) = some (n, s, cs, setR t k .undef) := by simp [tkO]
def tkB (t : TT) (k j m s : Nat) : TV → Option (Nat × Nat × List PV × TT)
 | .box bs => match cellC bs j with
   | some (.o n s' cs) => if m = n ∧ s = s' then some (n, s, cs, setC t k (.box (bs.set j .gone))) else none
   | _ => none
 | _ => none
@[simp] theorem tkT_slcB {z i k j m s : Nat} : tkT z t i (.slc k (some j) 0 m s) = tkB t k j m s (t k) := by
  simp only [tkT, tkB]
@[simp] theorem tkB_box {k j m s : Nat} {bs : List CV} : tkB t k j m s (.box bs) = match cellC bs j with
 | some (.o n s' cs) => if m = n ∧ s = s' then some (n, s, cs, setC t k (.box (bs.set j .gone))) else none
 | _ => none := rfl
def apT (size bytes : Nat) (a : Option (Nat × List PV)) (b : Option (Nat × Nat × List PV × TT)) : Option (TV × TT) :=
 match a with
 | none => none
 | some (m, new) => match b with
   | none => none
   | some (n, s, cs, t') => if s = size ∧ (n + m) * bytes ≤ lim47 then some (.own (n + m) s (cs ++ new), t') else none
@[simp] theorem appW_T {s b : Nat} : appW s b t x y = apT s b (srcP s t y) (takeOwn s t x) := rfl
@[simp] theorem apT_ok {b m n s : Nat} {new cs : List PV} {t' : TT} (h : (n + m) * b ≤ 140737488355328) : apT s b (some (m, new)) (some (n, s, cs, t')) = some (.own (n + m) s (cs ++ new), t') := by
  simp only [apT]; rw [if_pos ⟨trivial, h⟩]
@[simp] theorem opW_store1 : opW r ann (.store none x y) t = (st1 t x y).map fun t' => (.undef, t') := rfl
@[simp] theorem opW_storeN {m : Nat} : opW r ann (.store (some m) x y) t = (stN m t x y).map fun t' => (.undef, t') := rfl
def stV (t : TT) (k off : Nat) (x : Operand) : TV → TV → Option TT
 | .box _, .val (.agg _) => none
 | .box cs, .val p => match cellC cs off with
   | some (.v _) => some (updT t k (.box (cs.set off (.v p))))
   | some _ => some (setC t k (.box (cs.set off (.v p))))
   | none => none
 | .box cs, .own n s l => match x with
   | .tmp j => if off < cs.length ∧ j ≠ k then some (setC (setR t j .undef) k (.box (cs.set off (.o n s l)))) else none
   | _ => none
 | .own _ _ _, .val (.agg _) => none
 | .own n s cs, .val p => if off < cs.length then some (updT t k (.own n s (cs.set off p))) else none
 | _, _ => none
def stC (t : TT) (k j off : Nat) : TV → TV → Option TT
 | .box _, .val (.agg _) => none
 | .box cs, .val p => match cellC cs j with
   | some (.o n s l) => if off < l.length then some (updT t k (.box (cs.set j (.o n s (l.set off p))))) else none
   | _ => none
 | _, _ => none
@[simp] theorem st1_T : st1 t x y = match plc t x with
 | some (k, none, off) => stV t k off y (t k) (EvT t y)
 | some (k, some j, off) => stC t k j off (t k) (EvT t y)
 | none => none := by
  unfold st1
  cases hp : plc t x with
  | none => rfl
  | some p =>
    obtain ⟨k, c, off⟩ := p
    cases c with
    | none =>
      simp only [stV]
      cases t k <;> cases EvT t y <;> (try rename_i q; cases q) <;> rfl
    | some j =>
      simp only [stC]
      cases t k <;> cases EvT t y <;> (try rename_i q; cases q) <;> rfl
@[simp] theorem stV_box_sc {k off : Nat} {cs : List CV} {v : Value} : stV t k off x (.box cs) (.val (.sc v)) = match cellC cs off with
 | some (.v _) => some (updT t k (.box (cs.set off (.v (.sc v)))))
 | some _ => some (setC t k (.box (cs.set off (.v (.sc v)))))
 | none => none := rfl
@[simp] theorem stV_box_sl {k off n : Nat} {cs : List CV} {l : List PV} : stV t k off x (.box cs) (.val (.sl n l)) = match cellC cs off with
 | some (.v _) => some (updT t k (.box (cs.set off (.v (.sl n l)))))
 | some _ => some (setC t k (.box (cs.set off (.v (.sl n l)))))
 | none => none := rfl
@[simp] theorem stV_box_own {k off j n s : Nat} {cs : List CV} {l : List PV} : stV t k off (.tmp j) (.box cs) (.own n s l) = if off < cs.length ∧ j ≠ k then some (setC (setR t j .undef) k (.box (cs.set off (.o n s l)))) else none := rfl
@[simp] theorem stV_own_sc {k off n s : Nat} {cs : List PV} {v : Value} (h : off < cs.length) : stV t k off x (.own n s cs) (.val (.sc v)) = some (updT t k (.own n s (cs.set off (.sc v)))) := by
  simp only [stV]; rw [if_pos h]
@[simp] theorem stV_own_sl {k off n s m : Nat} {cs l : List PV} (h : off < cs.length) : stV t k off x (.own n s cs) (.val (.sl m l)) = some (updT t k (.own n s (cs.set off (.sl m l)))) := by
  simp only [stV]; rw [if_pos h]
@[simp] theorem opW_box : opW r ann (.box x) t = match x, EvT t x with
 | _, .val p => some (.box ((pvCells p).map .v), t)
 | .tmp i, .own n s cs => some (.box [.o n s cs], setR t i .undef)
 | _, _ => none := rfl
@[simp] theorem pvCells_sc {v : Value} : pvCells (.sc v) = [.sc v] := rfl
@[simp] theorem pvCells_sl {n : Nat} {cs : List PV} : pvCells (.sl n cs) = [.sl n cs] := rfl
@[simp] theorem pvCells_agg {cs : List PV} : pvCells (.agg cs) = cs := rfl
@[simp] theorem bldW_build {z : List Value} {ps : List (Nat × Nat × Operand)} : bldW t (.build z ps) = match pvZs z with
 | some l => match fillW t l ps with
   | some (cs, bos) => (frzIf t bos).map fun t1 => (.val (.agg cs), t1)
   | none => none
 | none => none := rfl
@[simp] theorem bldW_buildSlice {s n : Nat} {z : List Value} {ps : List (Nat × Nat × Operand)} : bldW t (.buildSlice s n z ps) = match pvCs z with
 | some l => match fillW t (repP n l) ps with
   | some (cs, bos) => if cs.length = n * s then (frzIf t bos).map fun t1 => (.own n s cs, t1) else none
   | none => none
 | none => none := rfl
attribute [simp] consO frzIf
def roQ (t : TT) (x : Operand) : TV → Option (PV × Option (Nat × Option Nat))
 | .val p => some (p, none)
 | _ => match plcS t x with
   | some (k, c, _, _, _) => (slv t x).map fun y => (.sl y.1 y.2, some (k, c))
   | none => none
@[simp] theorem roV_Q : roV t x = roQ t x (EvT t x) := by
  unfold roV roQ
  cases EvT t x <;> rfl
@[simp] theorem roQ_val {p : PV} : roQ t x (.val p) = some (p, none) := rfl
@[simp] theorem roQ_own {n s : Nat} {cs : List PV} : roQ t x (.own n s cs) = match plcS t x with
 | some (k, c, _, _, _) => (slv t x).map fun y => (.sl y.1 y.2, some (k, c))
 | none => none := rfl
@[simp] theorem roQ_slc {k : Nat} {c : Option Nat} {off n s : Nat} : roQ t x (.slc k c off n s) = match plcS t x with
 | some (k, c, _, _, _) => (slv t x).map fun y => (.sl y.1 y.2, some (k, c))
 | none => none := rfl
@[simp] theorem fillW_nil {cs : List PV} : fillW t cs [] = some (cs, []) := rfl
@[simp] theorem fillW_cons {cs : List PV} {off size : Nat} {rest : List (Nat × Nat × Operand)} : fillW t cs ((off, size, x) :: rest) = match roV t x with
 | some (p, bo) => if (pvCells p).length = size ∧ off + size ≤ cs.length then (fillW t (cs.take off ++ pvCells p ++ cs.drop (off + size)) rest).map fun r => (r.1, consO bo r.2) else none
 | none => none := rfl
attribute [simp] pvCs zcv isNilS lookA pvZs pvZ
@[simp] theorem pvC_int {k : IntKind} {a : Int} : pvC (.int k a) = some (.sc (.int k a)) := rfl
@[simp] theorem pvC_bool {b : Bool} : pvC (.bool b) = some (.sc (.bool b)) := rfl
@[simp] theorem pvC_str {b : ByteArray} : pvC (.string b) = some (.sc (.string b)) := rfl
@[simp] theorem pvC_nil : pvC (.slice none 0 0) = some (.sl 0 []) := rfl
@[simp] theorem pvC_nilF : pvC .nilFunc = some (.sc .nilFunc) := rfl
@[simp] theorem repP_one {n : Nat} {z : PV} : repP n [z] = List.replicate n z := rfl
@[simp] theorem repP_1 {l : List PV} : repP 1 l = l := by
  match l with
  | [] => rfl
  | [_] => rfl
  | _ :: _ :: _ => simp [repP]
def mkR (n : Nat) (zs : List PV) : List PV := repP n zs
@[simp high] theorem mkR_u8 {n : Nat} : mkR n [.sc (.int .u8 0)] = bp (List.replicate n 0) := mp_rep (f := fun b : Nat => PV.sc (.int .u8 (b : Int))) (a := 0)
@[simp] theorem mkR_k {n : Nat} {k : IntKind} {b : Int} : mkR n [.sc (.int k b)] = kp k (List.replicate n b) := mp_rep (f := fun b : Int => PV.sc (.int k b))
@[simp] theorem mkR_bool {n : Nat} {b : Bool} : mkR n [.sc (.bool b)] = mp (fun b : Bool => PV.sc (.bool b)) (List.replicate n b) := mp_rep (f := fun b : Bool => PV.sc (.bool b))
def mkT (size bytes : Nat) (zs : Option (List PV)) (l c : TV) (t : TT) : Option (TV × TT) :=
 match zs, l, c with
 | some zs, .val (.sc (.int _ l)), .val (.sc (.int _ c)) => if 0 ≤ l ∧ l ≤ c ∧ bytes * c ≤ lim48 ∧ zs.length = size then some (.own l.toNat size (repP l.toNat zs), t) else none
 | _, _, _ => none
@[simp] theorem opW_makeSlice {s b : Nat} {z : List Value} : opW r ann (.makeSlice s b z x y) t = mkT s b (pvCs z) (EvT t x) (EvT t y) t := by
  unfold mkT
  rfl
@[simp] theorem mkT_ok {b : Nat} {zs : List PV} {s : Nat} {k k' : IntKind} {n c : Int} (h0 : 0 ≤ n) (h1 : n ≤ c) (h2 : b * c ≤ 281474976710656) (h3 : zs.length = s) : mkT s b (some zs) (ti k n) (ti k' c) t = some (.own n.toNat s (mkR n.toNat zs), t) := by
  simp only [mkT, mkR]
  rw [if_pos ⟨h0, h1, by show (b : Int) * c ≤ ((2 ^ 48 : Nat) : Int); simpa using h2, h3⟩]
@[simp] theorem opW_strBytes : opW r ann (.strBytes x) t = match EvT t x with
 | .val (.sc (.string s)) => some (.own s.size 1 (s.data.toList.map fun b => .sc (.int .u8 b.toNat)), t)
 | _ => none := rfl
@[simp] theorem opW_bytesStr : opW r ann (.bytesStr x) t = match slv t x with
 | some (n, cs) => if n = cs.length then (bytesOf cs).map fun l => (.val (.sc (.string ⟨l.toArray⟩)), t) else none
 | none => none := rfl
@[simp] theorem opW_nilCheck {i : Nat} : opW r ann (.nilCheck (.tmp i)) t = (shT i 0 (t i)).map fun v => (v, t) := by
  have : opW r ann (.nilCheck (.tmp i)) t = match t i with | .pf cs o => some (TV.pf cs o, t) | _ => (plc t (.tmp i)).map fun p => (.ref p.1 p.2.1 p.2.2, t) := rfl
  rw [this]
  simp only [plc, shT]
  cases t i <;> simp
@[simp] theorem opW_eqv {neg : Bool} {ks : List CK} : opW r ann (.eqv neg ks x y) t = match EvT t x, EvT t y with
 | .val (.agg a), .val (.agg b) => match scVals a, scVals b with
   | some a, some b => (eqCells ks a b).map fun v => (.val (.sc (.bool (neg != v))), t)
   | _, _ => none
 | _, _ => none := rfl
attribute [simp] scVals
def slT (size i : Nat) (v : TV) (lo hi : Option TV) : Option TV :=
 match v with
 | .val (.sl n cs) => match boundI n n hi with
   | some hh => match boundI 0 hh lo with
     | some l => if n * size = cs.length then some (.val (.sl (hh - l) ((cs.drop (l * size)).take ((hh - l) * size)))) else none
     | none => none
   | none => none
 | .own n s _ => if s = size then match boundI n n hi with
  | some hh => match boundI 0 hh lo with
    | some l => some (.slc i none (0 + l * size) (hh - l) s)
    | none => none
  | none => none
   else none
 | .slc k c off n s => if s = size then match boundI n n hi with
  | some hh => match boundI 0 hh lo with
    | some l => some (.slc k c (off + l * size) (hh - l) s)
    | none => none
  | none => none
   else none
 | _ => none
@[simp] theorem opW_sliceSl {s i : Nat} {lo hi : Option Operand} : opW r ann (.sliceSl s (.tmp i) lo hi) t = (slT s i (t i) (lo.map (EvT t)) (hi.map (EvT t))).map fun v => (v, t) := by
  have : opW r ann (.sliceSl s (.tmp i) lo hi) t = match t i with
   | .val (.sl n cs) => match boundT t n n hi with
     | some hh => match boundT t 0 hh lo with
       | some l => if n * s = cs.length then some (.val (.sl (hh - l) ((cs.drop (l * s)).take ((hh - l) * s))), t) else none
       | none => none
     | none => none
   | _ => match plcS t (.tmp i) with
     | some (k, c, off, n, s') => if s' = s then match boundT t n n hi with
      | some hh => match boundT t 0 hh lo with
        | some l => some (.slc k c (off + l * s) (hh - l) s', t)
        | none => none
      | none => none
       else none
     | none => none := rfl
  rw [this]
  simp only [boundT_I, plcS, slT]
  cases t i with
  | val p => cases p with
    | sl n cs =>
      simp only
      cases boundI n n (hi.map (EvT t)) with
      | none => rfl
      | some hh =>
        simp only
        cases boundI 0 hh (lo.map (EvT t)) with
        | none => rfl
        | some q => simp only; split <;> rfl
    | _ => rfl
  | own n s' cs =>
    simp only
    by_cases hs : s' = s
    ·simp only [if_pos hs]
     cases boundI n n (hi.map (EvT t)) with
     | none => rfl
     | some hh =>
       simp only
       cases boundI 0 hh (lo.map (EvT t)) <;> rfl
    ·simp only [if_neg hs]; rfl
  | slc k c off n s' =>
    simp only
    by_cases hs : s' = s
    ·simp only [if_pos hs]
     cases boundI n n (hi.map (EvT t)) with
     | none => rfl
     | some hh =>
       simp only
       cases boundI 0 hh (lo.map (EvT t)) <;> rfl
    ·simp only [if_neg hs]; rfl
  | _ => rfl
section
variable {s i n : Nat} {cs : List PV} {k k' : IntKind} {lo hi : Int}
@[simp] theorem slT_00 (h : n * s = cs.length) : slT s i (.val (.sl n cs)) none none = some (.val (.sl n cs)) := by
  simp [slT, h, List.take_of_length_le]
@[simp] theorem slT_own_00 : slT s i (.own n s cs) none none = some (.slc i none 0 n s) := by
  simp [slT]
@[simp] theorem slT_own_lo (h0 : 0 ≤ lo) (h1 : lo ≤ n) : slT s i (.own n s cs) (some (ti k lo)) none = some (.slc i none (lo.toNat * s) (n - lo.toNat) s) := by
  simp only [slT, boundI_none, boundI_int, Nat.le_refl, if_true]
  rw [if_pos ⟨h0, h1⟩]; simp
@[simp] theorem slT_own_hi (h0 : 0 ≤ hi) (h1 : hi ≤ n) : slT s i (.own n s cs) none (some (ti k hi)) = some (.slc i none 0 hi.toNat s) := by
  simp only [slT, boundI_none, boundI_int, if_true]
  rw [if_pos ⟨h0, h1⟩]; simp
@[simp] theorem slT_own_lh (h0 : 0 ≤ lo) (h1 : lo ≤ hi) (h2 : hi ≤ n) : slT s i (.own n s cs) (some (ti k lo)) (some (ti k' hi)) = some (.slc i none (lo.toNat * s) (hi.toNat - lo.toNat) s) := by
  simp only [slT, boundI_int, if_true]
  rw [if_pos ⟨by omega, h2⟩]
  simp only
  rw [if_pos ⟨h0, by omega⟩]
  simp
@[simp] theorem slT_slc_00 {j off : Nat} {c : Option Nat} : slT s i (.slc j c off n s) none none = some (.slc j c off n s) := by
  simp [slT]
@[simp] theorem slT_slc_lo {j off : Nat} {c : Option Nat} (h0 : 0 ≤ lo) (h1 : lo ≤ n) : slT s i (.slc j c off n s) (some (ti k lo)) none = some (.slc j c (off + lo.toNat * s) (n - lo.toNat) s) := by
  simp only [slT, boundI_none, boundI_int, Nat.le_refl, if_true]
  rw [if_pos ⟨h0, h1⟩]
@[simp] theorem slT_slc_hi {j off : Nat} {c : Option Nat} (h0 : 0 ≤ hi) (h1 : hi ≤ n) : slT s i (.slc j c off n s) none (some (ti k hi)) = some (.slc j c off hi.toNat s) := by
  simp only [slT, boundI_none, boundI_int, if_true]
  rw [if_pos ⟨h0, h1⟩]; simp
@[simp] theorem slT_slc_lh {j off : Nat} {c : Option Nat} (h0 : 0 ≤ lo) (h1 : lo ≤ hi) (h2 : hi ≤ n) : slT s i (.slc j c off n s) (some (ti k lo)) (some (ti k' hi)) = some (.slc j c (off + lo.toNat * s) (hi.toNat - lo.toNat) s) := by
  simp only [slT, boundI_int, if_true]
  rw [if_pos ⟨by omega, h2⟩]
  simp only
  rw [if_pos ⟨h0, by omega⟩]
@[simp] theorem slT_lo (h : n * s = cs.length) (h0 : 0 ≤ lo) (h1 : lo ≤ n) : slT s i (.val (.sl n cs)) (some (ti k lo)) none = some (.val (.sl (n - lo.toNat) ((cs.drop (lo.toNat * s)).take ((n - lo.toNat) * s)))) := by
  simp only [slT, boundI_none, boundI_int, Nat.le_refl, if_true]
  rw [if_pos ⟨h0, h1⟩]; simp only [if_pos h]
@[simp] theorem slT_hi (h : n * s = cs.length) (h0 : 0 ≤ hi) (h1 : hi ≤ n) : slT s i (.val (.sl n cs)) none (some (ti k hi)) = some (.val (.sl hi.toNat (cs.take (hi.toNat * s)))) := by
  simp only [slT, boundI_none, boundI_int]
  rw [if_pos ⟨h0, h1⟩]; simp [h]
@[simp] theorem slT_lh (h : n * s = cs.length) (h0 : 0 ≤ lo) (h1 : lo ≤ hi) (h2 : hi ≤ n) : slT s i (.val (.sl n cs)) (some (ti k lo)) (some (ti k' hi)) = some (.val (.sl (hi.toNat - lo.toNat) ((cs.drop (lo.toNat * s)).take ((hi.toNat - lo.toNat) * s)))) := by
  simp only [slT, boundI_int]
  rw [if_pos ⟨by omega, h2⟩]
  simp only
  rw [if_pos ⟨h0, by omega⟩]
  simp only [if_pos h]
end
def saT (t : TT) (n size i : Nat) (v : TV) (lo hi : Option TV) : Option TV :=
 match v with
 | .pf cs off => if off + n * size ≤ cs.length then match boundI n n hi with
  | some hh => match boundI 0 hh lo with
    | some l => some (.val (.sl (hh - l) ((cs.drop (off + l * size)).take ((hh - l) * size))))
    | none => none
  | none => none
   else none
 | .box cs => if 0 + n * size ≤ cs.length then match boundI n n hi with
  | some hh => match boundI 0 hh lo with
    | some l => some (.slc i none (0 + l * size) (hh - l) size)
    | none => none
  | none => none
   else none
 | .ref k none off => match t k with
   | .box cs => if off + n * size ≤ cs.length then match boundI n n hi with
     | some hh => match boundI 0 hh lo with
       | some l => some (.slc k none (off + l * size) (hh - l) size)
       | none => none
     | none => none
     else none
   | _ => none
 | _ => none
@[simp] theorem opW_sliceArr {n s i : Nat} {lo hi : Option Operand} : opW r ann (.sliceArr n s (.tmp i) lo hi) t = (saT t n s i (t i) (lo.map (EvT t)) (hi.map (EvT t))).map fun v => (v, t) := by
  have : opW r ann (.sliceArr n s (.tmp i) lo hi) t = match t i with
   | .pf cs off => if off + n * s ≤ cs.length then match boundT t n n hi with
    | some hh => match boundT t 0 hh lo with
      | some l => some (.val (.sl (hh - l) ((cs.drop (off + l * s)).take ((hh - l) * s))), t)
      | none => none
    | none => none
     else none
   | _ => match plc t (.tmp i) with
     | some (k, none, off) => match t k with
       | .box cs => if off + n * s ≤ cs.length then match boundT t n n hi with
         | some hh => match boundT t 0 hh lo with
           | some l => some (.slc k none (off + l * s) (hh - l) s, t)
           | none => none
         | none => none
         else none
       | _ => none
     | _ => none := rfl
  rw [this]
  have fin : ∀ (P : Prop) [Decidable P] (g : Nat → Nat → TV), (if P then match boundI n n (hi.map (EvT t)) with | some hh => (match boundI 0 hh (lo.map (EvT t)) with | some l => some (g hh l, t) | none => none) | none => none else none) =
   (if P then match boundI n n (hi.map (EvT t)) with | some hh => (match boundI 0 hh (lo.map (EvT t)) with | some l => some (g hh l) | none => none) | none => none else none).map fun v => (v, t) := by
   intro P _ g
   by_cases hP : P
   ·simp only [if_pos hP]
    cases boundI n n (hi.map (EvT t)) with
    | none => rfl
    | some hh =>
      simp only
      cases boundI 0 hh (lo.map (EvT t)) <;> rfl
   ·simp only [if_neg hP]; rfl
  simp only [boundT_I, plc]
  cases ht : t i with
  | pf cs off => exact fin _ (fun hh l => .val (.sl (hh - l) ((cs.drop (off + l * s)).take ((hh - l) * s))))
  | box cs => simp only [ht, saT]; exact fin _ (fun hh l => .slc i none (0 + l * s) (hh - l) s)
  | ref k c off =>
    cases c with
    | none =>
      simp only [saT]
      cases t k with
      | box cs => exact fin _ (fun hh l => .slc k none (off + l * s) (hh - l) s)
      | _ => rfl
    | some _ => rfl
  | _ => rfl
attribute [simp] saT
@[simp] theorem opW_field1 {off : Nat} : opW r ann (.field none off x) t = match EvT t x with
 | .val (.agg cs) => (cellP cs off).map fun p => (.val p, t)
 | _ => none := rfl
@[simp] theorem opW_fieldN {off m : Nat} : opW r ann (.field (some m) off x) t = match EvT t x with
 | .val (.agg cs) => some (.val (.agg ((cs.drop off).take m)), t)
 | _ => none := rfl
@[simp] theorem opW_idxArr1 {n s : Nat} : opW r ann (.idxArr n s none x y) t = match EvT t x, EvT t y with
 | .val (.agg cs), .val (.sc (.int _ j)) => if 0 ≤ j ∧ j < n then (cellP cs (j.toNat * s)).map fun p => (.val p, t) else none
 | _, _ => none := rfl
@[simp] theorem opW_idxArrN {n s m : Nat} : opW r ann (.idxArr n s (some m) x y) t = match EvT t x, EvT t y with
 | .val (.agg cs), .val (.sc (.int _ j)) => if 0 ≤ j ∧ j < n then some (.val (.agg ((cs.drop (j.toNat * s)).take m)), t) else none
 | _, _ => none := rfl
@[simp] theorem opW_const {v : Value} : opW r ann (.const v) t = (pvC v).map fun p => (.val p, t) := rfl
@[simp] theorem ldN_T {m i : Nat} : ldN m t (.tmp i) = match t i with
 | .pf cs off => if off + m ≤ cs.length then some (.val (.agg ((cs.drop off).take m)), t) else none
 | .box cs => if 0 + m ≤ cs.length then
  if cs.all isV then (unv ((cs.drop 0).take m)).map fun l => (.val (.agg l), t)
  else (unv (((cs.map frz).drop 0).take m)).map fun l => (.val (.agg l), setC t i (.box (cs.map frz)))
  else none
 | .ref k none off => match t k with
   | .box cs => if off + m ≤ cs.length then
    if cs.all isV then (unv ((cs.drop off).take m)).map fun l => (.val (.agg l), t)
    else (unv (((cs.map frz).drop off).take m)).map fun l => (.val (.agg l), setC t k (.box (cs.map frz)))
     else none
   | .own _ _ cs => if off + m ≤ cs.length then some (.val (.agg ((cs.drop off).take m)), t) else none
   | _ => none
 | _ => none := by
  unfold ldN
  simp only [EvT, plc]
  cases ht : t i with
  | box cs => simp only [ht]
  | ref k c off => cases c <;> rfl
  | _ => rfl
attribute [simp] unv isV frz
@[simp] theorem unv_mpv {α : Type} {f : α → PV} {l : List α} : unv ((mp f l).map .v) = some (mp f l) := by
  induction l with
  | nil => rfl
  | cons a l ih => rw [mp_cons, List.map_cons, unv, ih]; rfl
attribute [simp] argsW arg1 afterW backs backHs backTV backH resTV tvC boxesC boxC nodupN rootsOf renum capArgs frzs frz1 isOwnB isOwnV
attribute [simp] argTT argTT' hidT tvA resOk houtsW resW
@[simp] theorem leaveV_ret {res : List ARes} {body : WCode} {avs : List AV} {hids : List (List CV)} : leaveV res body avs hids (some (.ret, t)) = leaveW res body avs hids t := rfl
@[simp] theorem leaveV_normal {res : List ARes} {body : WCode} {avs : List AV} {hids : List (List CV)} : leaveV res body avs hids (some (.normal, t)) = leaveW res body avs hids t := rfl
@[simp] theorem leaveV_none {res : List ARes} {body : WCode} {avs : List AV} {hids : List (List CV)} : leaveV res body avs hids none = none := rfl
@[simp] theorem leaveV_ite {res : List ARes} {body : WCode} {avs : List AV} {hids : List (List CV)} {b : Bool} {x y : Option (AExit × TT)} : leaveV res body avs hids (iteV b x y) = iteV b (leaveV res body avs hids x) (leaveV res body avs hids y) := by cases b <;> rfl
def outsN (nd : Nat → Bool) (t : TT) : Nat → List AV → Option (List AV)
 | _, [] => some []
 | j, .v _ :: l => (outsN nd t (j + 1) l).map fun r => .v (.agg []) :: r
 | j, .box _ :: l => if nd j then match t j, outsN nd t (j + 1) l with
  | .box cs, some r => some (.box cs :: r)
  | _, _ => none
   else none
 | j, .own .. :: l => if nd j then match t j, outsN nd t (j + 1) l with
  | .own n s cs, some r => some (.own n s cs :: r)
  | _, _ => none
   else none
 | j, .clo _ caps :: l => if nd j then match t j, outsN nd t (j + 1) l with
  | .clo f' caps', some r => if sameCaps caps caps' then some (.clo f' caps' :: r) else none
  | _, _ => none
   else none
theorem outsN_eq {nd : Nat → Bool} {body : WCode} (h : ∀ j, nd j = noDst j body.erase) : ∀ (l : List AV) (j : Nat), outsW body t j l = outsN nd t j l
 | [], j => rfl
 | .v _ :: l, j => by simp only [outsW, outsN, outsN_eq h l]
 | .box _ :: l, j => by simp only [outsW, outsN, outsN_eq h l, h]; rfl
 | .own .. :: l, j => by simp only [outsW, outsN, outsN_eq h l, h]; rfl
 | .clo .. :: l, j => by simp only [outsW, outsN, outsN_eq h l, h]; rfl
def leaveN (res : List ARes) (nd : Nat → Bool) (avs : List AV) (hids : List (List CV)) : Option (AExit × TT) → Option RW
 | some (.ret, t) | some (.normal, t) => if resOk avs res then match resW t res, outsN nd t 0 avs, houtsW t 0 hids with
   | some r, some o, some h => some (r, o, h)
   | _, _, _ => none
   else none
 | _ => none
def lvN (res : List ARes) (nd : Nat → Bool) (avs : List AV) (hids : List (List CV)) (t : TT) : Option RW :=
 if resOk avs res then match resW t res, outsN nd t 0 avs, houtsW t 0 hids with
  | some r, some o, some h => some (r, o, h)
  | _, _, _ => none
  else none
section
variable {res : List ARes} {nd : Nat → Bool} {avs : List AV} {hids : List (List CV)}
@[simp] theorem leaveN_ret : leaveN res nd avs hids (some (.ret, t)) = lvN res nd avs hids t := rfl
@[simp] theorem leaveN_normal : leaveN res nd avs hids (some (.normal, t)) = lvN res nd avs hids t := rfl
@[simp] theorem leaveN_none : leaveN res nd avs hids none = none := rfl
@[simp] theorem leaveN_ite {b : Bool} {x y : Option (AExit × TT)} : leaveN res nd avs hids (iteV b x y) = iteV b (leaveN res nd avs hids x) (leaveN res nd avs hids y) := by cases b <;> rfl
end
attribute [simp] lvN outsN
theorem callV_fn {f : String} {res : List ARes} {body : WCode} {avs : List AV} {hids : List (List CV)} {r : Option RW} (hE : E.fn f = some (.code res body))
 (h : ∀ nd : Nat → Bool, (∀ j, nd j = noDst j body.erase) → leaveN res nd avs hids (ex E [.c body] (argTT avs hids)) = r) : callV E f avs hids = r := by
 rw [callV_code hE, ← h (fun j => noDst j body.erase) (fun _ => rfl)]
 cases ex E [.c body] (argTT avs hids) with
 | none => rfl
 | some x =>
   obtain ⟨e, t⟩ := x
   cases e with
   | exit i => rfl
   | _ => simp only [leaveV, leaveN, leaveW, outsN_eq (nd := fun j => noDst j body.erase) (body := body) (fun _ => rfl)]; rfl
def aloneT : List AV → List (List CV) → Option RW := fun a _ => match a with
 | [] => some ([.v (.sc (.bool true))], [], [])
 | _ => none
end
theorem wrap_i64 {x : Int} (h : -9223372036854775808 ≤ x) (h' : x < 9223372036854775808) : IntKind.i64.wrap x = x := by rw [IntKind.wrap_i64]; omega
theorem wrap_u64 {x : Int} (h : 0 ≤ x) (h' : x < 18446744073709551616) : IntKind.u64.wrap x = x := by rw [IntKind.wrap_u64]; omega
theorem wrap_u16 (n : Int) : IntKind.u16.wrap n = n % 65536 := by simp [IntKind.wrap, IntKind.signed, IntKind.bits]
theorem wrap_u8 {x : Int} (h : 0 ≤ x) (h' : x < 256) : IntKind.u8.wrap x = x := by rw [IntKind.wrap_u8]; omega
end Go.Wb

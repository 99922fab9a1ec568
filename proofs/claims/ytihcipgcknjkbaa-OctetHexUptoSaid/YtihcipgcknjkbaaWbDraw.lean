/- A region that draws its order: whatever order is drawn, it comes to what the order of the text comes to. -/
import Derived.Test.YtihcipgcknjkbaaWbDrawDef
import Derived.Test.YtihcipgcknjkbaaWbOper
import Derived.Orders
namespace Go.Wb
open Go

/-! ### The states in the order of the text -/
structure Trace (call : CallF) (l : List AOper) (t : T) (h : Heap) (ts : Nat → T) (hs : Nat → Heap) (vs : Nat → Value) (G : List Heap) (L : List LoadRec) : Prop where
  t0 : ts 0 = t
  h0 : hs 0 = h
  step : ∀ k o, l[k]? = some o → ts (k + 1) = put (ts k) o.dst (vs k) ∧
    ((wantedA o.guard (ts k) = true ∧ evalA call o.op (ts k) (hs k) = some (vs k, hs (k + 1))) ∨ (wantedA o.guard (ts k) = false ∧ vs k = undef ∧ hs (k + 1) = hs k))
  stages : ∀ k, k ≤ l.length → (h :: G)[cnt l k]? = some (hs k)
  loads : ∀ k o, l[k]? = some o → isLoad o.op = true → ∃ r, L[cntL l k]? = some r ∧ [r] = loadRec o (ts k) (hs k)
  len : G.length = cnt l l.length

theorem cnt_zero (l : List AOper) : cnt l 0 = 0 := by simp [cnt]
theorem cnt_cons (o : AOper) (l : List AOper) (k : Nat) : cnt (o :: l) (k + 1) = (if isE o.op then 1 else 0) + cnt l k := by
  simp only [cnt, List.take_succ_cons, List.filter_cons]
  split <;> simp; omega
theorem cntL_cons (o : AOper) (l : List AOper) (k : Nat) : cntL (o :: l) (k + 1) = (if isLoad o.op then 1 else 0) + cntL l k := by
  simp only [cntL, List.take_succ_cons, List.filter_cons]
  split <;> simp; omega

theorem step_inv {call : CallF} {o : AOper} {t t' : T} {h h' : Heap} (hx : stepA call o t h = some (t', h')) :
    ∃ v, t' = put t o.dst v ∧ ((wantedA o.guard t = true ∧ evalA call o.op t h = some (v, h')) ∨ (wantedA o.guard t = false ∧ v = undef ∧ h' = h)) := by
  unfold stepA at hx
  split at hx
  · rename_i hw
    split at hx
    · rename_i v h1 hev
      injection hx with hx
      injection hx with e1 e2
      subst e1 e2
      exact ⟨v, rfl, .inl ⟨hw, hev⟩⟩
    · cases hx
  · rename_i hw
    injection hx with hx
    injection hx with e1 e2
    subst e1 e2
    exact ⟨undef, rfl, .inr ⟨by simpa using hw, rfl, rfl⟩⟩

theorem step_heap {call : CallF} {o : AOper} {t t' : T} {h h' : Heap} (hx : stepA call o t h = some (t', h')) (he : isE o.op = false) : h' = h := by
  obtain ⟨v, _, h1 | h1⟩ := step_inv hx
  · exact heap_same he h1.2
  · exact h1.2.2

theorem loadRec_length (o : AOper) (t : T) (h : Heap) : (loadRec o t h).length = if isLoad o.op then 1 else 0 := by
  unfold loadRec
  cases o.op <;> simp only [isLoad, List.length_nil, Bool.false_eq_true, if_false, if_true]
  split
  · split <;> rfl
  · rfl

theorem trace_of {call : CallF} : ∀ {l : List AOper} {t t' : T} {h h' : Heap} {G : List Heap} {L : List LoadRec}, execLog call l t h = some (t', h', G, L) →
    ∃ ts hs vs, Trace call l t h ts hs vs G L ∧ ts l.length = t' ∧ hs l.length = h'
  | [], t, t', h, h', G, L, hx => by
    simp only [execLog] at hx
    injection hx with hx
    injection hx with e1 hx
    injection hx with e2 hx
    injection hx with e3 e4
    subst e1 e2 e3 e4
    refine ⟨fun _ => t, fun _ => h, fun _ => undef, ⟨rfl, rfl, fun k o ho => by simp at ho, fun k hk => ?_, fun k o ho => by simp at ho, rfl⟩, rfl, rfl⟩
    simp [cnt]
  | o :: l, t, t', h, h', G, L, hx => by
    simp only [execLog] at hx
    split at hx
    · rename_i t1 h1 hst
      split at hx
      · rename_i t2 h2 G2 L2 hrest
        injection hx with hx
        injection hx with e1 hx
        injection hx with e2 hx
        injection hx with e3 e4
        subst e1 e2 e3 e4
        obtain ⟨ts, hs, vs, tr, q1, q2⟩ := trace_of hrest
        obtain ⟨v, hv, hcase⟩ := step_inv hst
        refine ⟨fun k => match k with | 0 => t | k + 1 => ts k, fun k => match k with | 0 => h | k + 1 => hs k, fun k => match k with | 0 => v | k + 1 => vs k, ⟨rfl, rfl, ?_, ?_, ?_, ?_⟩, q1, q2⟩
        · intro k o' ho
          cases k with
          | zero =>
            simp only [List.getElem?_cons_zero] at ho
            injection ho with ho
            subst ho
            simp only [tr.t0, tr.h0]
            exact ⟨hv, hcase⟩
          | succ k => exact tr.step k o' (by simpa using ho)
        · intro k hk
          cases k with
          | zero => simp [cnt_zero]
          | succ k =>
            rw [cnt_cons]
            have := tr.stages k (by simpa using hk)
            by_cases he : isE o.op = true
            · simp only [he, if_true]
              rw [Nat.add_comm, List.getElem?_cons_succ]
              exact this
            · have he : isE o.op = false := by simpa using he
              have hh := step_heap hst he
              subst hh
              simp only [he, Bool.false_eq_true, if_false, Nat.zero_add]
              exact this
        · intro k o' ho hl
          cases k with
          | zero =>
            simp only [List.getElem?_cons_zero] at ho
            injection ho with ho
            subst ho
            have hlen := loadRec_length o t h
            rw [hl] at hlen
            simp only [if_true] at hlen
            obtain ⟨r, hr⟩ := List.length_eq_one_iff.1 hlen
            refine ⟨r, ?_, hr.symm⟩
            rw [hr]
            simp [cntL]
          | succ k =>
            obtain ⟨r, hr1, hr2⟩ := tr.loads k o' (by simpa using ho) hl
            refine ⟨r, ?_, hr2⟩
            rw [cntL_cons]
            have hlen := loadRec_length o t h
            rw [List.getElem?_append_right (by rw [hlen]; omega), hlen]
            rw [show (if isLoad o.op = true then 1 else 0) + cntL l k - (if isLoad o.op = true then 1 else 0) = cntL l k by omega]
            exact hr1
        · rw [List.length_cons, cnt_cons]
          have := tr.len
          by_cases he : isE o.op = true
          · simp only [he, if_true, List.length_cons]; omega
          · simp only [he, Bool.false_eq_true, if_false]; omega
      · cases hx
    · cases hx

/-! ### The temporaries when just some operations have been done -/
def tD (l : List AOper) (vs : Nat → Value) (t : T) (D : Nat → Bool) : Nat → T
  | 0 => t
  | k + 1 => match D k, l[k]? with
    | true, some o => put (tD l vs t D k) o.dst (vs k)
    | _, _ => tD l vs t D k

theorem put_other {t : T} {d : Option Tmp} {v : Value} {i : Tmp} (h : d ≠ some i) : put t d v i = t i := by
  cases d with
  | none => rfl
  | some k =>
    simp only [put, upd]
    rw [if_neg]
    intro he
    exact h (by rw [he])

theorem put_same {t : T} {v : Value} {i : Tmp} : put t (some i) v i = v := by simp [put, upd]

theorem tD_agree {l : List AOper} {vs : Nat → Value} {t : T} {D D' : Nat → Bool} {i : Tmp} : ∀ (n : Nat), (∀ k o, k < n → l[k]? = some o → o.dst = some i → D k = D' k) → tD l vs t D n i = tD l vs t D' n i
  | 0, _ => rfl
  | n + 1, h => by
    have ih := tD_agree (vs := vs) (t := t) n (fun k o hk => h k o (by omega))
    simp only [tD]
    cases hl : l[n]? with
    | none =>
      cases D n <;> cases D' n <;> exact ih
    | some o =>
      by_cases hd : o.dst = some i
      · have := h n o (by omega) hl hd
        rw [this]
        cases D' n
        · exact ih
        · simp only [hd, put_same]
      · cases D n <;> cases D' n <;> simp only [put_other hd] <;> exact ih

theorem tD_prefix {call : CallF} {l : List AOper} {t : T} {h : Heap} {ts : Nat → T} {hs : Nat → Heap} {vs : Nat → Value} {G : List Heap} {L : List LoadRec} (tr : Trace call l t h ts hs vs G L) (j : Nat) :
    ∀ n, n ≤ l.length → tD l vs t (fun k => decide (k < j)) n = ts (min n j)
  | 0, _ => by simp [tD, tr.t0]
  | n + 1, hn => by
    have ih := tD_prefix tr j n (by omega)
    have hl : l[n]? = some l[n] := List.getElem?_eq_getElem (by omega)
    simp only [tD, hl]
    by_cases hj : n < j
    · rw [show min (n + 1) j = n + 1 by omega, (tr.step n _ hl).1]
      rw [ih, show min n j = n by omega]
      simp [hj]
    · rw [show min (n + 1) j = min n j by omega, ← ih]
      simp [hj]

theorem tD_insert {l : List AOper} {vs : Nat → Value} {t : T} {D D' : Nat → Bool} {j : Nat} {o : AOper} (ho : l[j]? = some o) (hD : ∀ k, D' k = (D k || k == j)) :
    ∀ n, j < n → (∀ k o', j < k → k < n → l[k]? = some o' → D k = true → ∀ i, o.dst = some i → o'.dst ≠ some i) → tD l vs t D' n = put (tD l vs t D n) o.dst (vs j) ∨ D j = true
  | 0, hn, _ => by omega
  | n + 1, hn, hlate => by
    by_cases hjn : j = n
    · subst hjn
      by_cases hdj : D j = true
      · exact .inr hdj
      · left
        have hdj : D j = false := by simpa using hdj
        simp only [tD, ho, hD j, hdj, Bool.false_or, beq_self_eq_true]
        congr 1
        funext i
        refine tD_agree j fun k o' hk _ _ => ?_
        rw [hD k]
        have : (k == j) = false := by simp; omega
        rw [this, Bool.or_false]
    · have ih := tD_insert (vs := vs) (t := t) ho hD n (by omega) (fun k o' h1 h2 => hlate k o' h1 (by omega))
      rcases ih with ih | ih
      · left
        have hn' : D' n = D n := by rw [hD n]; have : (n == j) = false := by simp; omega
                                    rw [this, Bool.or_false]
        simp only [tD, hn']
        cases hl : l[n]? with
        | none => cases D n <;> exact ih
        | some o' =>
          cases hdn : D n with
          | false => exact ih
          | true =>
            simp only
            rw [ih]
            funext i
            by_cases h1 : o'.dst = some i
            · rw [h1, put_same]
              by_cases h2 : o.dst = some i
              · exact absurd h1 (hlate n o' (by omega) (by omega) hl hdn i h2)
              · rw [put_other h2, put_same]
            · rw [put_other h1]
              by_cases h2 : o.dst = some i
              · rw [h2, put_same, put_same]
              · rw [put_other h2, put_other h2, put_other h1]
      · exact .inr ih

/-! ### What stands ahead -/
theorem fold_mask (acc : List Nat) (D : Nat → Bool) (hacc : ∀ e i, D e = true → (acc.getD e 0).testBit i = true → D i = true) : ∀ (es : List Edge) (s : Nat), (∀ i, s.testBit i = true → D i = true) → (∀ e ∈ es, Region.binds .any e = true → D e.on = true) →
    ∀ i, (es.foldl (fun s e => if Region.binds .any e then s ||| (2 ^ e.on ||| acc.getD e.on 0) else s) s).testBit i = true → D i = true
  | [], s, hs, _, i, hi => hs i hi
  | e :: es, s, hs, he, i, hi => by
    simp only [List.foldl_cons] at hi
    refine fold_mask acc D hacc es _ ?_ (fun x hx => he x (by simp [hx])) i hi
    intro i hi
    split at hi
    · rename_i hb
      have hd := he e (by simp) hb
      simp only [Nat.testBit_or, Bool.or_eq_true] at hi
      rcases hi with hi | hi | hi
      · exact hs i hi
      · rw [Nat.testBit_two_pow] at hi
        have : e.on = i := by simpa using hi
        rw [← this]; exact hd
      · exact hacc e.on i hd hi
    · exact hs i hi

theorem ancs_length : ∀ (l : List Oper) (acc : List Nat), (ancs l acc).length = acc.length + l.length
  | [], acc => by simp [ancs]
  | o :: l, acc => by simp only [ancs]; rw [ancs_length l]; simp; omega

theorem ancs_get : ∀ (l : List Oper) (acc : List Nat) (i : Nat), i < acc.length → (ancs l acc).getD i 0 = acc.getD i 0
  | [], acc, i, _ => rfl
  | o :: l, acc, i, hi => by
    simp only [ancs]
    rw [ancs_get l _ i (by simp; omega)]
    simp [List.getElem?_append_left hi]

/-- What is done with all that stands right ahead of it, is done with all that stands ahead of it. -/
theorem ancs_closed (D : Nat → Bool) : ∀ (l : List Oper) (acc : List Nat), (∀ e i, D e = true → (acc.getD e 0).testBit i = true → D i = true) →
    (∀ k o, l[k]? = some o → D (acc.length + k) = true → ∀ e ∈ o.after.toList, Region.binds .any e = true → D e.on = true) →
    (∀ e i, D e = true → ((ancs l acc).getD e 0).testBit i = true → D i = true) ∧
    (∀ k o, l[k]? = some o → (∀ e ∈ o.after.toList, Region.binds .any e = true → D e.on = true) → ∀ i, ((ancs l acc).getD (acc.length + k) 0).testBit i = true → D i = true)
  | [], acc, hacc, _ => ⟨hacc, fun k o ho => by simp at ho⟩
  | o :: l, acc, hacc, hcl => by
    have hm : (∀ e ∈ o.after.toList, Region.binds .any e = true → D e.on = true) → ∀ i, (maskOf acc o).testBit i = true → D i = true := fun he => fold_mask acc D hacc o.after.toList 0 (fun i hi => by simp at hi) he
    have hacc2 : ∀ e i, D e = true → ((acc ++ [maskOf acc o]).getD e 0).testBit i = true → D i = true := by
      intro e i hd hi
      rcases Nat.lt_trichotomy e acc.length with h1 | h1 | h1
      · exact hacc e i hd (by simpa [List.getD, List.getElem?_append_left h1] using hi)
      · subst h1
        have he := hcl 0 o (by simp) (by simpa using hd)
        exact hm he i (by simpa [List.getD] using hi)
      · have : (acc ++ [maskOf acc o]).getD e 0 = 0 := by simp [List.getD, List.getElem?_eq_none (show (acc ++ [maskOf acc o]).length ≤ e by simp; omega)]
        rw [this] at hi
        simp at hi
    obtain ⟨q1, q2⟩ := ancs_closed D l (acc ++ [maskOf acc o]) hacc2 (fun k o' ho hd => hcl (k + 1) o' (by simpa using ho) (by rw [List.length_append] at hd; simp only [List.length_singleton] at hd; rw [show acc.length + (k + 1) = acc.length + 1 + k by omega]; exact hd))
    simp only [ancs]
    refine ⟨q1, fun k o' ho he i hi => ?_⟩
    cases k with
    | zero =>
      simp only [List.getElem?_cons_zero] at ho
      injection ho with ho
      subst ho
      rw [Nat.add_zero, ancs_get l _ acc.length (by simp)] at hi
      exact hm he i (by simpa [List.getD] using hi)
    | succ k =>
      refine q2 k o' (by simpa using ho) he i ?_
      rw [List.length_append]
      simp only [List.length_singleton]
      rw [show acc.length + 1 + k = acc.length + (k + 1) by omega]
      exact hi

/-! ### Counting -/
theorem cnt_succ {l : List AOper} {k : Nat} {o : AOper} (ho : l[k]? = some o) : cnt l (k + 1) = cnt l k + if isE o.op then 1 else 0 := by
  have hk : k < l.length := by
    rcases Nat.lt_or_ge k l.length with h1 | h1
    · exact h1
    · simp [List.getElem?_eq_none h1] at ho
  have he : l[k] = o := by rw [List.getElem?_eq_getElem hk] at ho; injection ho
  simp only [cnt]
  rw [List.take_succ_eq_append_getElem hk, List.filter_append, List.length_append, he]
  congr 1
  simp only [List.filter_cons, List.filter_nil]
  split <;> rfl

theorem cnt_mono {l : List AOper} {i : Nat} : ∀ {j : Nat}, i ≤ j → j ≤ l.length → cnt l i ≤ cnt l j
  | 0, h, _ => by
    have : i = 0 := by omega
    subst this; exact Nat.le_refl _
  | j + 1, h, hl => by
    rcases Nat.lt_or_ge i (j + 1) with h1 | h1
    · have ih := cnt_mono (l := l) (show i ≤ j by omega) (by omega)
      rw [cnt_succ (List.getElem?_eq_getElem (show j < l.length by omega))]
      omega
    · have : i = j + 1 := by omega
      subst this; exact Nat.le_refl _

theorem cnt_prev {l : List AOper} : ∀ {j : Nat}, j ≤ l.length → 0 < cnt l j → ∃ e o, e < j ∧ l[e]? = some o ∧ isE o.op = true ∧ cnt l e + 1 = cnt l j
  | 0, _, h => by simp [cnt] at h
  | j + 1, hl, h => by
    have hj : l[j]? = some l[j] := List.getElem?_eq_getElem (by omega)
    have hs := cnt_succ hj
    by_cases he : isE l[j].op = true
    · exact ⟨j, _, by omega, hj, he, by rw [hs, if_pos he]⟩
    · rw [if_neg he] at hs
      obtain ⟨e, o, h1, h2, h3, h4⟩ := cnt_prev (l := l) (j := j) (by omega) (by omega)
      exact ⟨e, o, by omega, h2, h3, by omega⟩

theorem cnt_next {l : List AOper} {j : Nat} : ∀ {n : Nat}, j ≤ n → n ≤ l.length → cnt l j < cnt l n → ∃ e o, j ≤ e ∧ e < n ∧ l[e]? = some o ∧ isE o.op = true ∧ cnt l e = cnt l j
  | 0, h, _, hc => by simp [cnt] at hc
  | n + 1, h, hl, hc => by
    rcases Nat.lt_or_ge j (n + 1) with h1 | h1
    · rcases Nat.lt_or_ge (cnt l j) (cnt l n) with h2 | h2
      · obtain ⟨e, o, q1, q2, q3⟩ := cnt_next (l := l) (j := j) (n := n) (by omega) (by omega) h2
        exact ⟨e, o, q1, by omega, q3⟩
      · have h3 := cnt_mono (l := l) (show j ≤ n by omega) (by omega)
        have hn : l[n]? = some l[n] := List.getElem?_eq_getElem (by omega)
        have hs := cnt_succ hn
        by_cases he : isE l[n].op = true
        · exact ⟨n, _, by omega, by omega, hn, he, by omega⟩
        · rw [if_neg he] at hs; omega
    · have : j = n + 1 := by omega
      subst this; omega

end Go.Wb

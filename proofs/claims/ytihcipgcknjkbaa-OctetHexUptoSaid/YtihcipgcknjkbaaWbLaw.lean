/- From the abstract machine's answer to a law's row: a law that answers true over all that it may be handed returns true over all inputs, and no old memory is other than it was. -/
import Derived.Test.YtihcipgcknjkbaaWbArgs
import Derived.WalkKit
import Derived.ProofKit
import Derived.ShutString
import Derived.ChangeOld
import Derived.Below
import Derived.Carry
namespace Go.Wb
open Go Go.ChangeShapes Go.RowKit

def Ty.agg : Ty → Bool
  | .arr .. | .st .. => true
  | _ => false

def AVal (B : Nat) (ty : Ty) (h : Heap) (v : Value) : Prop := if ty.agg then ∃ cs, v = .agg cs ∧ AOk B ty h cs.toList else AOk B ty h [v]

def AArgs (B : Nat) : List Ty → Heap → List Value → Prop
  | [], _, vs => vs = []
  | ty :: tys, h, vs => ∃ v r, vs = v :: r ∧ AVal B ty h v ∧ AArgs B tys h r

theorem AVal.mono {B : Nat} {h x : Heap} {ty : Ty} {v : Value} (hv : AVal B ty h v) : AVal B ty (h ++ x) v := by
  unfold AVal at *
  split
  · rename_i ha
    rw [if_pos ha] at hv
    obtain ⟨cs, h1, h2⟩ := hv
    exact ⟨cs, h1, h2.mono⟩
  · rename_i ha
    rw [if_neg ha] at hv
    exact hv.mono

def tysOf (P : Program) : List TypeId → Option (List Ty)
  | [] => some []
  | t :: ts => match tyOf P 12 t, tysOf P ts with
    | some ty, some tys => some (ty :: tys)
    | _, _ => none

def NoOwn (h : Heap) : Prop := ∀ (b : Nat) (c : List Value), h[b]? = some (Blk.mem false c) → False

section
variable {H : Type} {enc : TypeId × Value → H} {P : Program} {w : World} {held : Bool} {base : Nat}

theorem tyOf_agg {d : Nat} {t : TypeId} {ty : Ty} (h : tyOf P d t = some ty) {v : Value} (hv : Value.okWide P w .any base t v) : if ty.agg then ∃ cs, v = .agg cs else v.cells.toList = [v] := by
  cases d with
  | zero => simp [tyOf] at h
  | succ d =>
    simp only [tyOf] at h
    unfold Value.okWide at hv
    split at h
    · rename_i ht; rw [ht] at hv
      injection h with h; subst h
      unfold Cell.okWide Cell.ok at hv; rw [ht] at hv
      cases v <;> first | exact hv.elim | rfl
    · rename_i ht; rw [ht] at hv
      injection h with h; subst h
      unfold Cell.okWide Cell.ok at hv; rw [ht] at hv
      cases v <;> first | exact hv.elim | rfl
    · rename_i ht; rw [ht] at hv
      injection h with h; subst h
      unfold Cell.okWide Cell.ok at hv; rw [ht] at hv
      cases v <;> first | exact hv.elim | rfl
    · rename_i ht; rw [ht] at hv
      split at h
      · rw [Option.map_eq_some_iff] at h; obtain ⟨_, _, rfl⟩ := h
        obtain ⟨cs, h1, _⟩ := hv
        exact ⟨cs, h1⟩
      · cases h
    · rename_i ht; rw [ht] at hv
      split at h
      · rw [Option.map_eq_some_iff] at h; obtain ⟨_, _, rfl⟩ := h
        obtain ⟨cs, h1, _⟩ := hv
        exact ⟨cs, h1⟩
      · cases h
    · rename_i ht; rw [ht] at hv
      split at h
      · rw [Option.map_eq_some_iff] at h; obtain ⟨_, _, rfl⟩ := h
        unfold Cell.okWide Cell.ok at hv; rw [ht] at hv
        cases v <;> first | exact hv.elim | rfl
      · cases h
    · cases h

theorem open_args {B : Nat} : ∀ (ts : List TypeId) (tys : List Ty) (vs : List Value) (ds : List (DataW H)) (p : List MemPlace), tysOf P ts = some tys →
    (∀ (j : Nat) t v, ts[j]? = some t → vs[j]? = some v → Value.okWide P w .any base t v) → DataW.TrodAll enc P w 0 (fun _ => true) held ts vs ds p → (∀ q ∈ DataW.weightsEach P ts ds, q ≤ reach) → bulkWs ds ≤ B →
    ∀ ι h, Rel ι h w → NoOwn h → ∃ (ι' : Inj) (h' : Heap) (avs : List Value), RO w ι h ι' h' ∧ CRel ι' h'.length avs vs ∧ AArgs B tys h' avs
  | [], tys, vs, ds, p, hty, _, hA, _, _, ι, h, hr, _ => by
    simp only [tysOf, Option.some.injEq] at hty
    subst hty
    obtain ⟨rfl, _, _⟩ := trodAll_nil hA
    exact ⟨ι, h, [], .refl hr, ⟨rfl, fun _ => .undef⟩, by simp only [AArgs]⟩
  | t :: ts, tys, vs, ds, p, hty, hval, hA, hsz, hB, ι, h, hr, hno => by
    simp only [tysOf] at hty
    split at hty
    · rename_i ty tys' h1 h2
      injection hty with hty
      subst hty
      obtain ⟨v, vs', d, ds', p1, q1, rfl, rfl, rfl, ⟨fuel, hT⟩, hR⟩ := trodAll_cons hA
      simp only [DataW.weightsEach, List.mem_append] at hsz
      simp only [bulkWs] at hB
      obtain ⟨ι1, g1, acs, r1, c1, a1, o1⟩ := open_cells (B := B) 12 fuel t _ (d, p1) ty hT h1 (fun q hq => hsz q (.inl hq)) (by show bulkW d ≤ B; omega) ι h hr hno
      obtain ⟨ι2, g2, avs, r2, c2, a2⟩ := open_args (B := B) ts tys' vs' ds' q1 h2 (fun j t v a b => hval (j + 1) t v (by simpa using a) (by simpa using b)) hR (fun q hq => hsz q (.inr hq)) (by omega) ι1 g1 r1.rel (fun b c hb => hno b c (r1.ro b c hb))
      have hag := tyOf_agg h1 (hval 0 t v rfl rfl)
      obtain ⟨x, hx⟩ := r2.ext
      have key : ∃ av, VRel ι2 g2.length av v ∧ AVal B ty g2 av := by
        cases hb : ty.agg with
        | true =>
          rw [hb, if_pos rfl] at hag
          obtain ⟨cs, rfl⟩ := hag
          refine ⟨.agg acs.toArray, ?_, ?_⟩
          · have := agg_crel (r2.crel c1) (fun v hv => o1 v hv)
            simpa [Value.cells] using this
          · unfold AVal
            rw [hb, if_pos rfl]
            exact ⟨_, rfl, by rw [hx]; exact a1.mono⟩
        | false =>
          rw [hb] at hag
          simp only [Bool.false_eq_true, if_false] at hag
          rw [hag] at c1
          have hl : acs.length = 1 := c1.1
          match acs, hl with
          | [av], _ =>
            refine ⟨av, ?_, ?_⟩
            · have := (r2.crel c1).2 0
              simpa using this
            · unfold AVal
              rw [hb]
              simp only [Bool.false_eq_true, if_false]
              rw [hx]; exact a1.mono
      obtain ⟨av, k1, k2⟩ := key
      refine ⟨ι2, g2, av :: avs, r1.trans r2, ?_, ?_⟩
      · have : CRel ι2 g2.length [av] [v] := crel_of rfl fun i hi _ => by
          have : i = 0 := by simpa using hi
          subst this; exact k1
        exact crel_append this c2
      · simp only [AArgs]
        exact ⟨av, avs, rfl, k2, a2⟩
    · cases hty

theorem rel_nil {w : World} : Rel (fun _ => ⟨0, 0, 0⟩) [] w := ⟨fun b ro cs hb => by simp at hb, fun b ro cs hb => by simp at hb, fun b ro cs hb => by simp at hb, fun b cs hb => by simp at hb, fun b b' cs ro cs' hb => by simp at hb⟩

theorem law_calls {nm : Names} {E : Env} (hcalls : CallsOk P nm (callA E)) {f : FuncId} {name : String} (hnm : nm f = some name) {ts : List TypeId} {tys : List Ty} (hty : tysOf P ts = some tys)
    {args : Array Value} {ds : List (DataW H)} {p : List MemPlace} (hval : ∀ (j : Nat) t v, ts[j]? = some t → args.toList[j]? = some v → Value.okWide P w .any base t v)
    (hA : DataW.TrodAll enc P w 0 (fun _ => true) held ts args.toList ds p) (hsz : ∀ q ∈ DataW.weightsEach P ts ds, q ≤ reach)
    (B : Nat) (hB : bulkWs ds ≤ B) (hlaw : ∀ avs h, NoOwn h → AArgs B tys h avs → ∃ h', callA E name avs h = some (.bool true, h')) :
    Calls P f args w fun e w' => e = .returned (.bool true) ∧ Below w.heap.size w w' := by
  obtain ⟨ι, h, avs, r, c, a⟩ := open_args (B := B) ts tys args.toList ds p hty hval hA hsz hB _ [] rel_nil (fun b c hb => by simp at hb)
  have hno : NoOwn h := fun b c hb => by have := r.ro b c hb; simp at this
  obtain ⟨h', hx⟩ := hlaw avs h hno a
  have := hcalls name avs h _ h' hx f hnm ι w args.toList r.rel c
  rw [Array.toArray_toList] at this
  refine this.mono fun e w' hh => ?_
  obtain ⟨ι', v', he, hs, hv⟩ := hh
  rw [hv.bool_inv] at he
  refine ⟨he, ⟨hs.os, hs.tape, hs.output, hs.size, fun k hk => hs.frame k hk ?_⟩⟩
  rintro ⟨b, cs, hb, _⟩
  exact hno b cs hb

def rowed (P : Program) (ts : List TypeId) : Bool := ts.all fun t => P.readableRec t && decide (t < P.types.size)

theorem trodAll_below (hl : laidOutB P = true) {w' : World} (hb : Below w.heap.size w w') : ∀ (ts : List TypeId) (vs : List Value) (ds : List (DataW H)) (p : List MemPlace), rowed P ts = true →
    DataW.TrodAll enc P w 0 (fun _ => true) true ts vs ds p → DataW.TrodAll enc P w' 0 (fun b => decide (b < w.heap.size)) true ts vs ds p
  | [], vs, ds, p, _, hA => by
    obtain ⟨rfl, rfl, rfl⟩ := trodAll_nil hA
    exact rfl
  | t :: ts, vs, ds, p, hr, hA => by
    simp only [rowed, List.all_cons, Bool.and_eq_true, decide_eq_true_eq] at hr
    obtain ⟨v, vs', d, ds', p1, q1, rfl, rfl, rfl, hT, hR⟩ := trodAll_cons hA
    obtain ⟨fuel, hF⟩ := hT
    exact trodAll_cons_mk (Below.trod hl hr.1.1 hr.1.2 ⟨fuel, hF⟩ hb (DataW.trod_lt fuel t _ _ hF)) (trodAll_below hl hb ts vs' ds' q1 hr.2 hR)

theorem trodAll_length : ∀ (ts : List TypeId) (vs : List Value) (ds : List (DataW H)) (p : List MemPlace) {sp : Nat → Bool}, DataW.TrodAll enc P w 0 sp held ts vs ds p → ds.length = ts.length
  | [], vs, ds, p, _, hA => by
    obtain ⟨_, rfl, _⟩ := trodAll_nil hA
    rfl
  | t :: ts, vs, ds, p, _, hA => by
    obtain ⟨v, vs', d, ds', p1, q1, rfl, rfl, rfl, _, hR⟩ := trodAll_cons hA
    simp [trodAll_length ts vs' ds' q1 hR]

theorem law_contract {nm : Names} {E : Env} (hcalls : CallsOk P nm (callA E)) (hlaid : laidOutB P = true) {f : FuncId} {fn : Func} {name : String} (hnm : nm f = some name) {tys : List Ty} {tb : TypeId} {s : ChangeSpec}
    (hty : tysOf P fn.params.toList = some tys) (hrow : rowed P fn.params.toList = true) (hrt : fn.resultTypes = #[tb]) (htb : P.underlying tb = some .bool) (hvars : s.vars = [])
    (hs : ∀ ds : List (DataW H), ds.length = fn.params.toList.length → s.fn H ds = { results := [.lit (.bool true)], args := ds })
    (B : Nat) (hlaw : ∀ avs h, NoOwn h → AArgs B tys h avs → ∃ h', callA E name avs h = some (.bool true, h'))
    {args : Array Value} {ds gs : List (DataW H)} {before : List MemPlace} (hval : ∀ (j : Nat) t v, fn.params[j]? = some t → args[j]? = some v → Value.okWide P w .any base t v)
    (hW : DataW.Whole enc P fn.params.toList s.vars false w args.toList ds gs before)
    (hsz : (DataW.weightsEach P (fn.params.toList ++ s.plain.varTypes P) (ds ++ gs)).all (· ≤ reachBytes) = true) (hB : bulkWs (ds ++ gs) ≤ B) :
    Calls P f args w fun e w' => ∃ v, e = .returned v ∧ s.post enc P fn false true false false w args v w' := by
  have hW' := hW
  obtain ⟨p, q, hA, hV, rfl, hfz, hnd⟩ := hW
  have hA' := hA
  rw [hvars] at hV
  obtain ⟨rfl, rfl⟩ := trodVars_none hV
  have hlen := trodAll_length _ _ _ _ hA
  have hsz' : ∀ q ∈ DataW.weightsEach P fn.params.toList ds, q ≤ reach := by
    intro q hq
    have hsub : ∀ (ts us : List TypeId) (l : List (DataW H)), q ∈ DataW.weightsEach P ts l → q ∈ DataW.weightsEach P (ts ++ us) l := by
      intro ts
      induction ts with
      | nil => intro us l hm; simp [DataW.weightsEach] at hm
      | cons t ts ih =>
        intro us l hm
        cases l with
        | nil => simp [DataW.weightsEach] at hm
        | cons d l =>
          simp only [DataW.weightsEach, List.mem_append, List.cons_append] at hm ⊢
          rcases hm with hm | hm
          · exact .inl hm
          · exact .inr (ih us l hm)
    rw [List.append_nil] at hsz
    have := List.all_eq_true.1 hsz q (hsub _ _ _ hq)
    simpa [reach] using this
  refine (law_calls hcalls hnm hty (fun j t v a b => hval j t v (by simpa using a) (by simpa using b)) hA hsz' B (by rw [List.append_nil] at hB; exact hB) hlaw).mono fun e w' hh => ?_
  obtain ⟨rfl, bel⟩ := hh
  refine ⟨_, rfl, ds, [], p ++ [], [], p, [], hW', ?_, ?_, ?_, bel.frame _, fun h => by cases h⟩
  · rw [List.append_nil, hs ds hlen, hrt]
    exact trodAll_mk1 (shut_bool htb true)
  · rw [List.append_nil, hs ds hlen]
    exact trodAll_below hlaid bel _ _ _ _ hrow hA'
  · rw [List.append_nil, hs ds hlen, hvars]
    rfl

end
end Go.Wb

/- The abstract machine by reckoning alone: a twin that the kernel can run; and a function of no arguments whose heap is thrown away. -/
import Derived.Test.YtihcipgcknjkbaaWbLimit
namespace Go.Wb
open Go

/-- Cells that can be told to be the same. -/
def sameV1 : Value → Value → Bool
  | .bool a, .bool b => a == b
  | .int k a, .int k' b => decide (k = k') && decide (a = b)
  | .string a, .string b => decide (a = b)
  | .pointer a, .pointer b => decide (a = b)
  | .slice a n m, .slice b n' m' => decide (a = b) && decide (n = n') && decide (m = m')
  | _, _ => false

theorem sameV1_eq {a b : Value} (h : sameV1 a b = true) : a = b := by
  cases a <;> cases b <;> simp_all [sameV1]

def sameL : List Value → List Value → Bool
  | [], [] => true
  | a :: l, b :: m => sameV1 a b && sameL l m
  | _, _ => false

theorem sameL_eq : ∀ {l m : List Value}, sameL l m = true → l = m
  | [], [], _ => rfl
  | a :: l, b :: m, h => by
    simp only [sameL, Bool.and_eq_true] at h
    rw [sameV1_eq h.1, sameL_eq h.2]
  | [], _ :: _, h => by simp [sameL] at h
  | _ :: _, [], h => by simp [sameL] at h

def sameV (a b : Value) : Bool :=
  match a, b with
  | .agg x, .agg y => sameL x.toList y.toList
  | a, b => sameV1 a b

theorem sameV_eq {a b : Value} (h : sameV a b = true) : a = b := by
  unfold sameV at h
  split at h
  · have := sameL_eq h
    rename_i x y
    have : x = y := by cases x; cases y; simpa using this
    rw [this]
  · exact sameV1_eq h

def sameAtB (G : List Heap) (L : List LoadRec) (p : Nat × Nat) : Bool :=
  match L[p.1]?, G[p.2]? with
  | some (some (n, a, v)), some h => match readV h n a with
    | some u => sameV u v
    | none => false
  | some none, some _ => true
  | _, _ => false

def checkPairsB (G : List Heap) (L : List LoadRec) : List (Nat × Nat) → Bool
  | [] => true
  | p :: ps => sameAtB G L p && checkPairsB G L ps

theorem checkPairsB_ok {G : List Heap} {L : List LoadRec} : ∀ {ps : List (Nat × Nat)}, checkPairsB G L ps = true → checkPairs G L ps
  | [], _ => trivial
  | p :: ps, h => by
    simp only [checkPairsB, Bool.and_eq_true] at h
    refine ⟨?_, checkPairsB_ok h.2⟩
    have h1 := h.1
    unfold sameAtB at h1
    unfold sameAt
    split at h1
    · rename_i n a v h0 e1 e2
      split at h1
      · rename_i u hu
        rw [e1, e2]
        show readV h0 n a = some v
        rw [hu, sameV_eq h1]
      · cases h1
    · rename_i e1 e2
      rw [e1, e2]
      trivial
    · cases h1

def drawnE (call : CallF) (l : List AOper) (pairs : List (Nat × Nat)) (t : T) (h : Heap) : Option (T × Heap) :=
  match pairs with
  | [] => execOps call l t h
  | pairs => match execLog call l t h with
    | some (t', h', G, L) => if checkPairsB (h :: G) L pairs then some (t', h') else none
    | none => none

theorem execLog_ops {call : CallF} : ∀ {l : List AOper} {t : T} {h : Heap} {t' : T} {h' : Heap}, execOps call l t h = some (t', h') → ∃ G L, execLog call l t h = some (t', h', G, L)
  | [], t, h, t', h', hx => by
    simp only [execOps, Option.some.injEq, Prod.mk.injEq] at hx
    obtain ⟨rfl, rfl⟩ := hx
    exact ⟨[], [], rfl⟩
  | o :: l, t, h, t', h', hx => by
    simp only [execOps] at hx
    split at hx
    · rename_i t1 h1 hst
      obtain ⟨G, L, hl⟩ := execLog_ops hx
      simp only [execLog, hst, hl]
      exact ⟨_, _, rfl⟩
    · cases hx

theorem drawnE_ok {call : CallF} {l : List AOper} {ps : List (Nat × Nat)} {t : T} {h : Heap} {r : T × Heap} (hx : drawnE call l ps t h = some r) : execDrawn call l ps t h = some r := by
  unfold drawnE at hx
  unfold execDrawn
  split at hx
  · obtain ⟨t', h'⟩ := r
    obtain ⟨G, L, hl⟩ := execLog_ops hx
    rw [hl]
    simp only [checkPairs]
    exact if_pos trivial
  · split at hx
    · rename_i t' h' G L hl
      rw [hl]
      simp only
      split at hx
      · rename_i hc
        rw [if_pos (checkPairsB_ok hc)]
        exact hx
      · cases hx
    · cases hx

def leaveE (res : List ARes) : Option (AExit × T × Heap) → Option (Value × Heap)
  | some (.ret, t, h) => (resVal t h res).map fun v => (v, h)
  | some (.normal, t, h) => (resVal t h res).map fun v => (v, h)
  | _ => none

def callE (E : Env) (run : ACode → T → Heap → Option (AExit × T × Heap)) : CallF := fun f args h =>
  match E f with
  | none => none
  | some (.prim g) => g args h
  | some (.code res body) => leaveE res (run body (argT args) h)

def runE (E : Env) : Nat → ACode → T → Heap → Option (AExit × T × Heap)
  | 0, _, _, _ => none
  | n + 1, c, t, h => match c with
    | .skip => some (.normal, t, h)
    | .ops l => (execOps (callE E (runE E n)) l t h).map fun x => (.normal, x.1, x.2)
    | .drawn l ps => (drawnE (callE E (runE E n)) l ps t h).map fun x => (.normal, x.1, x.2)
    | .seq a b => match runE E n a t h with
      | some (.normal, t', h') => runE E n b t' h'
      | r => r
    | .cond c x y => match Ev t c with
      | .bool true => runE E n x t h
      | .bool false => runE E n y t h
      | _ => none
    | .block id b => match runE E n b t h with
      | some (.exit i, t', h') => if i = id then some (.normal, t', h') else some (.exit i, t', h')
      | r => r
    | .loop b => match runE E n b t h with
      | some (.normal, t', h') => runE E n (.loop b) t' h'
      | r => r
    | .exit id => some (.exit id, t, h)
    | .ret => some (.ret, t, h)

theorem runE_ok {E : Env} : ∀ (n : Nat) (c : ACode) (t : T) (h : Heap) (r : AExit × T × Heap), runE E n c t h = some r → runA E c t h = some r
  | 0, _, _, _, _, hx => by simp [runE] at hx
  | n + 1, c, t, h, r, hx => by
    have hcall : LeC (callE E (runE E n)) (callA E) := by
      intro f args h r hx
      unfold callE at hx
      split at hx
      · cases hx
      · rename_i g hg
        rw [callA_prim hg]
        exact hx
      · rename_i res body hb
        rw [callA_code hb]
        unfold leaveE at hx
        unfold leave
        split at hx
        · rename_i t1 h1 h2
          rw [runE_ok n _ _ _ _ h2]
          exact hx
        · rename_i t1 h1 h2
          rw [runE_ok n _ _ _ _ h2]
          exact hx
        · cases hx
    unfold runE at hx
    split at hx
    · rw [runA_skip]; exact hx
    · rename_i l
      rw [runA_ops]
      rw [Option.map_eq_some_iff] at hx
      obtain ⟨x, h1, h2⟩ := hx
      rw [execOps_mono hcall h1]
      exact congrArg some h2
    · rename_i l ps
      rw [runA_drawn]
      rw [Option.map_eq_some_iff] at hx
      obtain ⟨x, h1, h2⟩ := hx
      rw [execDrawn_mono hcall (drawnE_ok h1)]
      exact congrArg some h2
    · rename_i a b
      rw [runA_seq]
      split at hx
      · rename_i t1 h1 h2
        rw [runE_ok n _ _ _ _ h2]
        exact runE_ok n _ _ _ _ hx
      · rename_i hne
        rw [runE_ok n _ _ _ _ hx]
        obtain ⟨e, t1, h1⟩ := r
        cases e with
        | normal => exact (hne t1 h1 hx).elim
        | exit _ => rfl
        | ret => rfl
    · rename_i c x y
      rw [runA_cond]
      split at hx
      · rename_i hb
        rw [hb]; exact runE_ok n _ _ _ _ hx
      · rename_i hb
        rw [hb]; exact runE_ok n _ _ _ _ hx
      · cases hx
    · rename_i id b
      rw [runA_block]
      split at hx
      · rename_i i t1 h1 h2
        rw [runE_ok n _ _ _ _ h2]
        exact hx
      · rename_i hne
        rw [runE_ok n _ _ _ _ hx]
        obtain ⟨e, t1, h1⟩ := r
        cases e with
        | exit i => exact (hne i t1 h1 hx).elim
        | normal => rfl
        | ret => rfl
    · rename_i b
      rw [runA_loop]
      split at hx
      · rename_i t1 h1 h2
        rw [runE_ok n _ _ _ _ h2]
        exact runE_ok n _ _ _ _ hx
      · rename_i hne
        rw [runE_ok n _ _ _ _ hx]
        obtain ⟨e, t1, h1⟩ := r
        cases e with
        | normal => exact (hne t1 h1 hx).elim
        | exit _ => rfl
        | ret => rfl
    · rw [runA_exit]; exact hx
    · rw [runA_ret]; exact hx

/-- A function of no arguments, run by the twin from the empty heap: what scalar it gives. -/
def aloneE (E : Env) (n : Nat) (res : List ARes) (body : ACode) (b : Bool) : Bool :=
  match leaveE res (runE E n body (argT []) []) with
  | some (.bool c, _) => c == b
  | _ => false

theorem aloneE_ok {E : Env} {n : Nat} {f : String} {res : List ARes} {body : ACode} {b : Bool} (hE : E f = some (.code res body)) (h : aloneE E n res body b = true) : ∃ h', callA E f [] [] = some (.bool b, h') := by
  unfold aloneE at h
  rw [callA_code hE]
  split at h
  · rename_i c h' hx
    refine ⟨h', ?_⟩
    have hc : c = b := by simpa using h
    subst hc
    unfold leaveE at hx
    unfold leave
    split at hx
    · rename_i t1 h1 h2
      rw [runE_ok n _ _ _ _ h2]
      exact hx
    · rename_i t1 h1 h2
      rw [runE_ok n _ _ _ _ h2]
      exact hx
    · cases hx
  · cases h

/-- What a function of no arguments leaves behind is nothing to the caller's heap. -/
def alone (b : Bool) : List Value → Heap → Option (Value × Heap) := fun args h => match args with
  | [] => some (.bool b, h)
  | _ => none

theorem alone_ok {P : Program} {f : FuncId} {b : Bool} {h1 : Heap} (hc : CallOk P f [] [] (.bool b) h1) : ∀ args h v h', alone b args h = some (v, h') → CallOk P f args h v h' := by
  intro args h v h' hx
  unfold alone at hx
  split at hx
  · injection hx with hx
    injection hx with e1 e2
    subst e1 e2
    intro ι w args' hr hcr
    have hnil : args' = [] := by
      have := hcr.1
      cases args' with
      | nil => rfl
      | cons _ _ => simp at this
    subst hnil
    have hr0 : Rel ι ([] : Heap) w := ⟨fun b ro cs hb => by simp at hb, fun b ro cs hb => by simp at hb, fun b ro cs hb => by simp at hb, fun b cs hb => by simp at hb, fun b b' cs ro cs' hb => by simp at hb⟩
    refine (hc ι w [] hr0 ⟨rfl, fun _ => .undef⟩).mono fun e w' hh => ?_
    obtain ⟨ι', v', he, hs, hv⟩ := hh
    have hfr : ∀ B, B < w.heap.size → w'.heap[B]? = w.heap[B]? := fun B hB => hs.frame B hB (by rintro ⟨b, cs, hb, _⟩; simp at hb)
    refine ⟨ι, .bool b, by rw [he, hv.bool_inv], ?_, .bool b⟩
    have hcell : ∀ a x, w.cell? a = some x → w'.cell? a = some x := by
      intro a x hx
      have hlt := World.block_lt_of_cell? w _ hx
      simp only [World.cell?] at hx ⊢
      rw [hfr _ hlt]; exact hx
    refine ⟨Nat.le_refl _, fun _ _ => rfl, ⟨?_, ?_, ?_, ?_, ?_⟩, hs.size, fun B hB _ => hfr B hB, fun B hB => .inr hB, hs.tape, hs.os, hs.output⟩
    · intro b ro cs hb i hi
      obtain ⟨v', q1, q2, q3⟩ := hr.cell b ro cs hb i hi
      exact ⟨v', hcell _ _ q1, q2, q3⟩
    · intro b ro cs hb hz
      exact Nat.lt_of_lt_of_le (hr.inside b ro cs hb hz) hs.size
    · exact hr.fits
    · intro b cs hb
      obtain ⟨c, e, lo, hi, q1, q2, q3⟩ := hr.own b cs hb
      refine ⟨c, e, lo, hi, ?_, q2, q3⟩
      rw [hfr _ (hr.inside b false cs hb (.inl rfl))]; exact q1
    · exact hr.apart
  · cases hx

end Go.Wb

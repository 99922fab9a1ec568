/- What is come to with some fuel: calls and code without fuel, and the equations by which they are reckoned. -/
import Derived.Test.YtihcipgcknjkbaaWbCode
namespace Go.Wb
open Go

open Classical in
noncomputable def callA (E : Env) : CallF := fun f args h => if hx : ∃ n r, callN E n f args h = some r then some (Classical.choose (Classical.choose_spec hx)) else none

open Classical in
noncomputable def runA (E : Env) (c : ACode) (t : T) (h : Heap) : Option (AExit × T × Heap) := if hx : ∃ n r, runN E n c t h = some r then some (Classical.choose (Classical.choose_spec hx)) else none

section
variable {E : Env}

theorem callA_iff {f : String} {args : List Value} {h : Heap} {r : Value × Heap} : callA E f args h = some r ↔ ∃ n, callN E n f args h = some r := by
  unfold callA
  constructor
  · intro hx
    split at hx
    · rename_i hex
      have := Classical.choose_spec (Classical.choose_spec hex)
      injection hx with hx
      rw [hx] at this
      exact ⟨_, this⟩
    · cases hx
  · rintro ⟨n, hn⟩
    have hex : ∃ n r, callN E n f args h = some r := ⟨n, r, hn⟩
    rw [dif_pos hex]
    have h1 := Classical.choose_spec (Classical.choose_spec hex)
    have h2 := callN_le (Nat.le_max_left n (Classical.choose hex)) hn
    have h3 := callN_le (Nat.le_max_right n (Classical.choose hex)) h1
    rw [h2] at h3
    injection h3 with h3
    rw [← h3]

theorem runA_iff {c : ACode} {t : T} {h : Heap} {r : AExit × T × Heap} : runA E c t h = some r ↔ ∃ n, runN E n c t h = some r := by
  unfold runA
  constructor
  · intro hx
    split at hx
    · rename_i hex
      have := Classical.choose_spec (Classical.choose_spec hex)
      injection hx with hx
      rw [hx] at this
      exact ⟨_, this⟩
    · cases hx
  · rintro ⟨n, hn⟩
    have hex : ∃ n r, runN E n c t h = some r := ⟨n, r, hn⟩
    rw [dif_pos hex]
    have h1 := Classical.choose_spec (Classical.choose_spec hex)
    have h2 := runN_le (Nat.le_max_left n (Classical.choose hex)) hn
    have h3 := runN_le (Nat.le_max_right n (Classical.choose hex)) h1
    rw [h2] at h3
    injection h3 with h3
    rw [← h3]

theorem callN_A (n : Nat) : LeC (callN E n) (callA E) := fun _ _ _ _ hx => callA_iff.2 ⟨n, hx⟩

theorem opt_ext {α : Type} {x y : Option α} (h : ∀ r, x = some r ↔ y = some r) : x = y := by
  cases x with
  | none => cases y with
    | none => rfl
    | some b => exact absurd ((h b).2 rfl) (by simp)
  | some a => exact ((h a).1 rfl).symm

theorem evalA_fin {o : AOp} {t : T} {h : Heap} {r : Value × Heap} (hx : evalA (callA E) o t h = some r) : ∃ n, evalA (callN E n) o t h = some r := by
  cases o <;> first | exact ⟨0, hx⟩ | exact callA_iff.1 hx

theorem stepA_fin {o : AOper} {t : T} {h : Heap} {r : T × Heap} (hx : stepA (callA E) o t h = some r) : ∃ n, stepA (callN E n) o t h = some r := by
  unfold stepA at hx
  split at hx
  · rename_i hw
    split at hx
    · rename_i v h1 hev
      obtain ⟨n, hn⟩ := evalA_fin hev
      exact ⟨n, by unfold stepA; rw [if_pos hw, hn]; exact hx⟩
    · cases hx
  · rename_i hw
    exact ⟨0, by unfold stepA; rw [if_neg hw]; exact hx⟩

theorem execOps_fin : ∀ {l : List AOper} {t : T} {h : Heap} {r : T × Heap}, execOps (callA E) l t h = some r → ∃ n, execOps (callN E n) l t h = some r
  | [], _, _, _, hx => ⟨0, hx⟩
  | o :: l, t, h, r, hx => by
    simp only [execOps] at hx
    split at hx
    · rename_i t1 h1 hst
      obtain ⟨n, hn⟩ := stepA_fin hst
      obtain ⟨m, hm⟩ := execOps_fin hx
      refine ⟨max n m, ?_⟩
      simp only [execOps]
      rw [stepA_mono (callN_leC (Nat.le_max_left n m)) hn]
      exact execOps_mono (callN_leC (Nat.le_max_right n m)) hm
    · cases hx

theorem execLog_fin : ∀ {l : List AOper} {t : T} {h : Heap} {r : T × Heap × List Heap × List LoadRec}, execLog (callA E) l t h = some r → ∃ n, execLog (callN E n) l t h = some r
  | [], _, _, _, hx => ⟨0, hx⟩
  | o :: l, t, h, r, hx => by
    simp only [execLog] at hx
    split at hx
    · rename_i t1 h1 hst
      split at hx
      · rename_i t2 h2 G L hr
        obtain ⟨n, hn⟩ := stepA_fin hst
        obtain ⟨m, hm⟩ := execLog_fin hr
        refine ⟨max n m, ?_⟩
        simp only [execLog]
        rw [stepA_mono (callN_leC (Nat.le_max_left n m)) hn]
        simp only
        rw [execLog_mono (callN_leC (Nat.le_max_right n m)) hm]
        exact hx
      · cases hx
    · cases hx

theorem execDrawn_fin {l : List AOper} {ps : List (Nat × Nat)} {t : T} {h : Heap} {r : T × Heap} (hx : execDrawn (callA E) l ps t h = some r) : ∃ n, execDrawn (callN E n) l ps t h = some r := by
  unfold execDrawn at hx
  split at hx
  · rename_i t1 h1 G L hr
    obtain ⟨n, hn⟩ := execLog_fin hr
    exact ⟨n, by unfold execDrawn; rw [hn]; exact hx⟩
  · cases hx

theorem runA_ops {l : List AOper} {t : T} {h : Heap} : runA E (.ops l) t h = (execOps (callA E) l t h).map fun x => (.normal, x.1, x.2) := by
  apply opt_ext
  intro r
  rw [runA_iff]
  constructor
  · rintro ⟨n, hn⟩
    cases n with
    | zero => simp only [runN] at hn; cases hn
    | succ n =>
      rw [runN_ops, Option.map_eq_some_iff] at hn
      obtain ⟨x, hx, hn⟩ := hn
      rw [execOps_mono (callN_A n) hx]
      simp [hn]
  · intro hx
    rw [Option.map_eq_some_iff] at hx
    obtain ⟨x, hx, hr⟩ := hx
    obtain ⟨n, hn⟩ := execOps_fin hx
    exact ⟨n + 1, by rw [runN_ops, hn]; simp [hr]⟩

theorem runA_drawn {l : List AOper} {ps : List (Nat × Nat)} {t : T} {h : Heap} : runA E (.drawn l ps) t h = (execDrawn (callA E) l ps t h).map fun x => (.normal, x.1, x.2) := by
  apply opt_ext
  intro r
  rw [runA_iff]
  constructor
  · rintro ⟨n, hn⟩
    cases n with
    | zero => simp only [runN] at hn; cases hn
    | succ n =>
      rw [runN_drawn, Option.map_eq_some_iff] at hn
      obtain ⟨x, hx, hn⟩ := hn
      rw [execDrawn_mono (callN_A n) hx]
      simp [hn]
  · intro hx
    rw [Option.map_eq_some_iff] at hx
    obtain ⟨x, hx, hr⟩ := hx
    obtain ⟨n, hn⟩ := execDrawn_fin hx
    exact ⟨n + 1, by rw [runN_drawn, hn]; simp [hr]⟩

theorem runA_skip {t : T} {h : Heap} : runA E .skip t h = some (.normal, t, h) := runA_iff.2 ⟨1, by rw [runN_skip]⟩
theorem runA_exit {id : Nat} {t : T} {h : Heap} : runA E (.exit id) t h = some (.exit id, t, h) := runA_iff.2 ⟨1, by rw [runN_exit]⟩
theorem runA_ret {t : T} {h : Heap} : runA E .ret t h = some (.ret, t, h) := runA_iff.2 ⟨1, by rw [runN_ret]⟩

theorem runA_seq {a b : ACode} {t : T} {h : Heap} : runA E (.seq a b) t h = match runA E a t h with
      | some (.normal, t', h') => runA E b t' h'
      | r => r := by
  apply opt_ext
  intro r
  rw [runA_iff]
  constructor
  · rintro ⟨n, hn⟩
    cases n with
    | zero => simp only [runN] at hn; cases hn
    | succ n =>
      rw [runN_seq] at hn
      split at hn
      · rename_i t1 h1 h2
        rw [runA_iff.2 ⟨n, h2⟩]
        exact runA_iff.2 ⟨n, hn⟩
      · rename_i hne
        rw [runA_iff.2 ⟨n, hn⟩]
        split
        · rename_i t1 h1 he
          exact (hne t1 h1 (by rw [hn]; exact he)).elim
        · rfl
  · intro hx
    split at hx
    · rename_i t1 h1 h2
      obtain ⟨n, hn⟩ := runA_iff.1 h2
      obtain ⟨m, hm⟩ := runA_iff.1 hx
      refine ⟨max n m + 1, ?_⟩
      rw [runN_seq, runN_le (Nat.le_max_left n m) hn]
      exact runN_le (Nat.le_max_right n m) hm
    · rename_i hne
      obtain ⟨n, hn⟩ := runA_iff.1 hx
      refine ⟨n + 1, ?_⟩
      rw [runN_seq, hn]
      split
      · rename_i t1 h1 he
        injection he with he
        exact (hne t1 h1 (by rw [hx, he])).elim
      · rfl

theorem runA_cond {c : Operand} {x y : ACode} {t : T} {h : Heap} : runA E (.cond c x y) t h = match Ev t c with
      | .bool true => runA E x t h
      | .bool false => runA E y t h
      | _ => none := by
  apply opt_ext
  intro r
  rw [runA_iff]
  constructor
  · rintro ⟨n, hn⟩
    cases n with
    | zero => simp only [runN] at hn; cases hn
    | succ n =>
      rw [runN_cond] at hn
      split at hn
      · rename_i hb
        rw [hb]
        exact runA_iff.2 ⟨n, hn⟩
      · rename_i hb
        rw [hb]
        exact runA_iff.2 ⟨n, hn⟩
      · cases hn
  · intro hx
    split at hx
    · rename_i hb
      obtain ⟨n, hn⟩ := runA_iff.1 hx
      exact ⟨n + 1, by rw [runN_cond, hb]; exact hn⟩
    · rename_i hb
      obtain ⟨n, hn⟩ := runA_iff.1 hx
      exact ⟨n + 1, by rw [runN_cond, hb]; exact hn⟩
    · cases hx

theorem runA_block {id : Nat} {b : ACode} {t : T} {h : Heap} : runA E (.block id b) t h = match runA E b t h with
      | some (.exit i, t', h') => if i = id then some (.normal, t', h') else some (.exit i, t', h')
      | r => r := by
  apply opt_ext
  intro r
  rw [runA_iff]
  constructor
  · rintro ⟨n, hn⟩
    cases n with
    | zero => simp only [runN] at hn; cases hn
    | succ n =>
      rw [runN_block] at hn
      split at hn
      · rename_i i t1 h1 h2
        rw [runA_iff.2 ⟨n, h2⟩]
        exact hn
      · rename_i hne
        rw [runA_iff.2 ⟨n, hn⟩]
        split
        · rename_i i t1 h1 he
          exact (hne i t1 h1 (by rw [hn]; exact he)).elim
        · rfl
  · intro hx
    split at hx
    · rename_i i t1 h1 h2
      obtain ⟨n, hn⟩ := runA_iff.1 h2
      exact ⟨n + 1, by rw [runN_block, hn]; exact hx⟩
    · rename_i hne
      obtain ⟨n, hn⟩ := runA_iff.1 hx
      refine ⟨n + 1, ?_⟩
      rw [runN_block, hn]
      split
      · rename_i i t1 h1 he
        injection he with he
        exact (hne i t1 h1 (by rw [hx, he])).elim
      · rfl

theorem runA_loop {b : ACode} {t : T} {h : Heap} : runA E (.loop b) t h = match runA E b t h with
      | some (.normal, t', h') => runA E (.loop b) t' h'
      | r => r := by
  apply opt_ext
  intro r
  rw [runA_iff]
  constructor
  · rintro ⟨n, hn⟩
    cases n with
    | zero => simp only [runN] at hn; cases hn
    | succ n =>
      rw [runN_loop] at hn
      split at hn
      · rename_i t1 h1 h2
        rw [runA_iff.2 ⟨n, h2⟩]
        exact runA_iff.2 ⟨n, hn⟩
      · rename_i hne
        rw [runA_iff.2 ⟨n, hn⟩]
        split
        · rename_i t1 h1 he
          exact (hne t1 h1 (by rw [hn]; exact he)).elim
        · rfl
  · intro hx
    split at hx
    · rename_i t1 h1 h2
      obtain ⟨n, hn⟩ := runA_iff.1 h2
      obtain ⟨m, hm⟩ := runA_iff.1 hx
      refine ⟨max n m + 1, ?_⟩
      rw [runN_loop, runN_le (Nat.le_max_left n m) hn]
      exact runN_le (Nat.le_max_right n m) hm
    · rename_i hne
      obtain ⟨n, hn⟩ := runA_iff.1 hx
      refine ⟨n + 1, ?_⟩
      rw [runN_loop, hn]
      split
      · rename_i t1 h1 he
        injection he with he
        exact (hne t1 h1 (by rw [hx, he])).elim
      · rfl

/-- What a function's code comes to. -/
def leave (res : List ARes) : Option (AExit × T × Heap) → Option (Value × Heap)
  | some (.ret, t, h) => (resVal t h res).map fun v => (v, h)
  | some (.normal, t, h) => (resVal t h res).map fun v => (v, h)
  | _ => none

theorem callA_code {f : String} {res : List ARes} {body : ACode} {args : List Value} {h : Heap} (hE : E f = some (.code res body)) : callA E f args h = leave res (runA E body (argT args) h) := by
  apply opt_ext
  intro r
  rw [callA_iff]
  constructor
  · rintro ⟨n, hn⟩
    cases n with
    | zero => simp only [callN] at hn; cases hn
    | succ n =>
      simp only [callN, hE] at hn
      split at hn
      · rename_i t1 h1 h2
        rw [runA_iff.2 ⟨n, h2⟩]
        exact hn
      · rename_i t1 h1 h2
        rw [runA_iff.2 ⟨n, h2⟩]
        exact hn
      · cases hn
  · intro hx
    unfold leave at hx
    split at hx
    · rename_i t1 h1 h2
      obtain ⟨n, hn⟩ := runA_iff.1 h2
      exact ⟨n + 1, by simp only [callN, hE, hn]; exact hx⟩
    · rename_i t1 h1 h2
      obtain ⟨n, hn⟩ := runA_iff.1 h2
      exact ⟨n + 1, by simp only [callN, hE, hn]; exact hx⟩
    · cases hx

theorem callA_prim {f : String} {g : List Value → Heap → Option (Value × Heap)} {args : List Value} {h : Heap} (hE : E f = some (.prim g)) : callA E f args h = g args h := by
  apply opt_ext
  intro r
  rw [callA_iff]
  constructor
  · rintro ⟨n, hn⟩
    cases n with
    | zero => simp only [callN] at hn; cases hn
    | succ n => simp only [callN, hE] at hn; exact hn
  · intro hx
    exact ⟨1, by simp only [callN, hE]; exact hx⟩

/-- THE WHOLE: what the abstract machine's call comes to, the model's call comes to. -/
theorem calls_sound {P : Program} {nm : Names} (hm : P.follows .mixedOrders = true) (hE : EnvOk P nm E) : CallsOk P nm (callA E) := by
  intro n args h v h' hx f hf
  obtain ⟨k, hk⟩ := callA_iff.1 hx
  exact (run_sound hm hE k).1 n args h v h' hk f hf

end
end Go.Wb

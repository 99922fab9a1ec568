/- More fuel gives the same; what is come to with some fuel at all; and the rows by which it is reckoned. -/
import Derived.Test.YtihcipgcknjkbaaWbRun
namespace Go.Wb
open Go

def LeC (c c' : CallF) : Prop := ∀ f args h r, c f args h = some r → c' f args h = some r

theorem evalA_mono {c c' : CallF} (hc : LeC c c') {o : AOp} {t : T} {h : Heap} {r : Value × Heap} (hx : evalA c o t h = some r) : evalA c' o t h = some r := by
  cases o <;> first | exact hx | exact hc _ _ _ _ hx

theorem stepA_mono {c c' : CallF} (hc : LeC c c') {o : AOper} {t : T} {h : Heap} {r : T × Heap} (hx : stepA c o t h = some r) : stepA c' o t h = some r := by
  unfold stepA at hx ⊢
  split
  · rename_i hw
    rw [if_pos hw] at hx
    split at hx
    · rename_i v h1 hev
      rw [evalA_mono hc hev]
      exact hx
    · cases hx
  · rename_i hw
    rw [if_neg hw] at hx
    exact hx

theorem execOps_mono {c c' : CallF} (hc : LeC c c') : ∀ {l : List AOper} {t : T} {h : Heap} {r : T × Heap}, execOps c l t h = some r → execOps c' l t h = some r
  | [], _, _, _, hx => hx
  | o :: l, t, h, r, hx => by
    simp only [execOps] at hx ⊢
    split at hx
    · rename_i t1 h1 hst
      rw [stepA_mono hc hst]
      exact execOps_mono hc hx
    · cases hx

theorem execLog_mono {c c' : CallF} (hc : LeC c c') : ∀ {l : List AOper} {t : T} {h : Heap} {r : T × Heap × List Heap × List LoadRec}, execLog c l t h = some r → execLog c' l t h = some r
  | [], _, _, _, hx => hx
  | o :: l, t, h, r, hx => by
    simp only [execLog] at hx ⊢
    split at hx
    · rename_i t1 h1 hst
      rw [stepA_mono hc hst]
      simp only
      split at hx
      · rename_i t2 h2 G L hr
        rw [execLog_mono hc hr]
        exact hx
      · cases hx
    · cases hx

theorem execDrawn_mono {c c' : CallF} (hc : LeC c c') {l : List AOper} {ps : List (Nat × Nat)} {t : T} {h : Heap} {r : T × Heap} (hx : execDrawn c l ps t h = some r) : execDrawn c' l ps t h = some r := by
  unfold execDrawn at hx ⊢
  split at hx
  · rename_i t1 h1 G L hr
    rw [execLog_mono hc hr]
    exact hx
  · cases hx

section
variable {E : Env} {n : Nat} {t : T} {h : Heap}
theorem runN_ops {l : List AOper} : runN E (n + 1) (.ops l) t h = (execOps (callN E n) l t h).map fun x => (.normal, x.1, x.2) := by simp only [runN]
theorem runN_drawn {l : List AOper} {ps : List (Nat × Nat)} : runN E (n + 1) (.drawn l ps) t h = (execDrawn (callN E n) l ps t h).map fun x => (.normal, x.1, x.2) := by simp only [runN]
theorem runN_seq {a b : ACode} : runN E (n + 1) (.seq a b) t h = match runN E n a t h with
      | some (.normal, t', h') => runN E n b t' h'
      | r => r := by simp only [runN]; rfl
theorem runN_cond {c : Operand} {x y : ACode} : runN E (n + 1) (.cond c x y) t h = match Ev t c with
      | .bool true => runN E n x t h
      | .bool false => runN E n y t h
      | _ => none := by simp only [runN]; rfl
theorem runN_block {id : Nat} {b : ACode} : runN E (n + 1) (.block id b) t h = match runN E n b t h with
      | some (.exit i, t', h') => if i = id then some (.normal, t', h') else some (.exit i, t', h')
      | r => r := by simp only [runN]; rfl
theorem runN_loop {b : ACode} : runN E (n + 1) (.loop b) t h = match runN E n b t h with
      | some (.normal, t', h') => runN E n (.loop b) t' h'
      | r => r := by simp only [runN]; rfl
theorem runN_exit {id : Nat} : runN E (n + 1) (.exit id) t h = some (.exit id, t, h) := by simp only [runN]
theorem runN_ret : runN E (n + 1) .ret t h = some (.ret, t, h) := by simp only [runN]
theorem runN_skip : runN E (n + 1) .skip t h = some (.normal, t, h) := by simp only [runN]
end

theorem fuel_mono (E : Env) : ∀ n, LeC (callN E n) (callN E (n + 1)) ∧ ∀ c t h r, runN E n c t h = some r → runN E (n + 1) c t h = some r := by
  intro n
  induction n with
  | zero => exact ⟨fun f args h r hx => (by simp only [callN] at hx; cases hx), fun c t h r hx => (by simp only [runN] at hx; cases hx)⟩
  | succ n ih =>
    obtain ⟨ihc, ihr⟩ := ih
    constructor
    · intro f args h r hx
      rw [callN] at hx ⊢
      split at hx
      · cases hx
      · exact hx
      · rename_i rs body hb
        split at hx
        · rename_i t1 h1 hr
          rw [ihr _ _ _ _ hr]
          exact hx
        · rename_i t1 h1 hr
          rw [ihr _ _ _ _ hr]
          exact hx
        · cases hx
    · intro c t h r hx
      cases c with
      | skip => rw [runN_skip] at hx ⊢; exact hx
      | ops l =>
        rw [runN_ops, Option.map_eq_some_iff] at hx ⊢
        obtain ⟨y, hy, hx⟩ := hx
        exact ⟨y, execOps_mono ihc hy, hx⟩
      | drawn l ps =>
        rw [runN_drawn, Option.map_eq_some_iff] at hx ⊢
        obtain ⟨y, hy, hx⟩ := hx
        exact ⟨y, execDrawn_mono ihc hy, hx⟩
      | seq a b =>
        rw [runN_seq] at hx ⊢
        split at hx
        · rename_i t1 h1 hr
          rw [ihr _ _ _ _ hr]
          exact ihr _ _ _ _ hx
        · rename_i hne
          have := ihr _ _ _ _ hx
          rw [this]
          split
          · rename_i t1 h1 he
            exact (hne t1 h1 (by rw [hx]; exact he)).elim
          · rfl
      | cond cnd x y =>
        rw [runN_cond] at hx ⊢
        split at hx
        · rename_i hb
          exact ihr _ _ _ _ hx
        · rename_i hb
          exact ihr _ _ _ _ hx
        · cases hx
      | block id b =>
        rw [runN_block] at hx ⊢
        split at hx
        · rename_i i t1 h1 hr
          rw [ihr _ _ _ _ hr]
          exact hx
        · rename_i hne
          have := ihr _ _ _ _ hx
          rw [this]
          split
          · rename_i i t1 h1 he
            exact (hne i t1 h1 (by rw [hx]; exact he)).elim
          · rfl
      | loop b =>
        rw [runN_loop] at hx ⊢
        split at hx
        · rename_i t1 h1 hr
          rw [ihr _ _ _ _ hr]
          exact ihr _ _ _ _ hx
        · rename_i hne
          have := ihr _ _ _ _ hx
          rw [this]
          split
          · rename_i t1 h1 he
            exact (hne t1 h1 (by rw [hx]; exact he)).elim
          · rfl
      | exit id => rw [runN_exit] at hx ⊢; exact hx
      | ret => rw [runN_ret] at hx ⊢; exact hx

theorem runN_le {E : Env} {n m : Nat} (hle : n ≤ m) {c : ACode} {t : T} {h : Heap} {r : AExit × T × Heap} (hx : runN E n c t h = some r) : runN E m c t h = some r := by
  induction hle with
  | refl => exact hx
  | step _ ih => exact (fuel_mono E _).2 _ _ _ _ ih

theorem callN_le {E : Env} {n m : Nat} (hle : n ≤ m) {f : String} {args : List Value} {h : Heap} {r : Value × Heap} (hx : callN E n f args h = some r) : callN E m f args h = some r := by
  induction hle with
  | refl => exact hx
  | step _ ih => exact (fuel_mono E _).1 _ _ _ _ ih

theorem callN_leC {E : Env} {n m : Nat} (hle : n ≤ m) : LeC (callN E n) (callN E m) := fun _ _ _ _ hx => callN_le hle hx

end Go.Wb

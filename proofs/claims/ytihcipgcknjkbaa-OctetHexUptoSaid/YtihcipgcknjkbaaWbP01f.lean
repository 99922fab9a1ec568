/- Chapter 1: the document's Unhex. -/
import Derived.Test.YtihcipgcknjkbaaWbP01e
set_option maxRecDepth 100000
namespace Go.Wb.P01
open Go Go.Wb Go.Wb.Code
section
variable {E : Env} (e : WbC01Env E)
include e

theorem ref01_Unhex_check (h : Heap) (p : Nat) (hp : h[p]? = some (.mem false [.int .i64 0, .int .i64 0])) (l : List Nat) (h256 : ∀ x ∈ l, x < 256) (hl : l.length ≤ 140737488355328) : ∀ (m k : Nat) (t : T) (r), k + m = l.length → (∀ i, i < k → isHex (l.getD i 0) = true) → runA E (.loop ref01_Unhex_L1) t h = r →
    t 0 = .string (strOf l) → t 3 = .pointer (some ⟨p, 0, none⟩) → t 4 = .int .i64 k →
    (∃ t', r = some (.exit 0, t', h) ∧ (∀ i, i < l.length → isHex (l.getD i 0) = true) ∧ t' 0 = .string (strOf l) ∧ t' 3 = .pointer (some ⟨p, 0, none⟩)) ∨
    (∃ t' i, r = some (.ret, t', h.set p (.mem false [.int .i64 3, .int .i64 (i : Nat)])) ∧ i < l.length ∧ (∀ j, j < i → isHex (l.getD j 0) = true) ∧ isHex (l.getD i 0) = false ∧ t' 2 = .slice none 0 0 ∧ t' 3 = .pointer (some ⟨p, 0, none⟩))
  | 0, k, t, r, hk, hh, hr, t0, t3, t4 => by
    have hn : ¬ ((k : Int) < l.length) := by omega
    rw [runA_loop] at hr
    simp [ref01_Unhex_L1, t0, t4, strOf_size, hn] at hr
    have : k = l.length := by omega
    subst this
    exact .inl ⟨_, hr.symm, hh, by simp [t0], by simp [t3]⟩
  | m + 1, k, t, r, hk, hh, hr, t0, t3, t4 => by
    have ih := ref01_Unhex_check h p hp l h256 hl m (k + 1)
    have hn : ((k : Int) < l.length) := by omega
    have hs := strAt h256 (i := k) (by omega) hn
    simp only [Int.toNat_natCast] at hs
    have hc := h256 _ (getD_mem (by omega : k < l.length))
    have hd := ref01_digit e (l.getD k 0) hc h
    cases hhex : isHex (l.getD k 0) with
    | false =>
      rw [hhex] at hd
      have hw := write_all (h := h) (i := p) (n := 2) (c := #[.int .i64 3, .int .i64 (k : Nat)]) hp rfl rfl
      rw [runA_loop] at hr
      generalize hcg : l.getD k 0 = c at *
      simp at hd hw
      simp (disch := omega) [ref01_Unhex_L1, t0, t3, t4, strOf_size, hn, hs, hd, hw] at hr
      exact .inr ⟨_, k, hr.symm, by omega, hh, by rw [hcg]; exact hhex, by simp, by simp [t3]⟩
    | true =>
      rw [hhex] at hd
      have hh' : ∀ i, i < k + 1 → isHex (l.getD i 0) = true := by
        intro i hi
        rcases Nat.lt_succ_iff_lt_or_eq.1 hi with h1 | h1
        · exact hh i h1
        · rw [h1]; exact hhex
      simp only [if_true] at hd
      have hneg : ¬ ((nib (l.getD k 0) : Nat) : Int) < 0 := by omega
      generalize nib (l.getD k 0) = x at *
      generalize l.getD k 0 = c at *
      rw [runA_loop] at hr
      simp (disch := omega) [ref01_Unhex_L1, t0, t4, strOf_size, hn, hs, hd, hneg, wrap_i64] at hr
      exact ih _ _ (by omega) hh' hr (by simp [t0]) (by simp [t3]) (by simp)

theorem ref01_Unhex_build (h0 : Heap) (p : Nat) (l : List Nat) (h256 : ∀ x ∈ l, x < 256) (hl : l.length ≤ 140737488355328) (heven : l.length % 2 = 0) (hh : ∀ i, i < l.length → isHex (l.getD i 0) = true) : ∀ (m k : Nat) (o : Value) (h : Heap) (t : T) (r), 2 * (k + m) = l.length → Ext h0 h → OwnB h0 h ((half l l.length).take k) o → runA E (.loop ref01_Unhex_L0) t h = r →
    t 0 = .string (strOf l) → t 3 = .pointer (some ⟨p, 0, none⟩) → t 5 = o → t 6 = .int .i64 (2 * (k : Int)) →
    ∃ t' h' o', r = some (.exit 2, t', h') ∧ Ext h0 h' ∧ OwnB h0 h' (half l l.length) o' ∧ t' 5 = o' ∧ t' 3 = .pointer (some ⟨p, 0, none⟩)
  | 0, k, o, h, t, r, hk, hx, ho, hr, t0, t3, t5, t6 => by
    have hn : ¬ (2 * (k : Int) < l.length) := by omega
    rw [runA_loop] at hr
    simp [ref01_Unhex_L0, t0, t6, strOf_size, hn] at hr
    rw [List.take_of_length_le (by rw [half_length]; omega)] at ho
    exact ⟨_, _, o, hr.symm, hx, ho, by simp [t5], by simp [t3]⟩
  | m + 1, k, o, h, t, r, hk, hx, ho, hr, t0, t3, t5, t6 => by
    have ih := ref01_Unhex_build h0 p l h256 hl heven hh m (k + 1)
    have hn : (2 * (k : Int) < l.length) := by omega
    have s1 := strAt h256 (i := 2 * (k : Int)) (by omega) hn
    have s2 := strAt h256 (i := 2 * (k : Int) + 1) (by omega) (by omega)
    rw [show (2 * (k : Int)).toNat = 2 * k from by omega] at s1
    rw [show (2 * (k : Int) + 1).toNat = 2 * k + 1 from by omega] at s2
    have c1 := h256 _ (getD_mem (by omega : 2 * k < l.length))
    have c2 := h256 _ (getD_mem (by omega : 2 * k + 1 < l.length))
    have x1 := hh (2 * k) (by omega)
    have x2 := hh (2 * k + 1) (by omega)
    have d1 := ref01_digit e (l.getD (2 * k) 0) c1 h
    have d2 := ref01_digit e (l.getD (2 * k + 1) 0) c2 h
    rw [x1, if_pos rfl] at d1
    rw [x2, if_pos rfl] at d2
    have n1 := nib_lt x1
    have n2 := nib_lt x2
    have hg := half_get l l.length k (by omega)
    rw [if_pos (by omega)] at hg
    have hstep : (half l l.length).take (k + 1) = (half l l.length).take k ++ [nib (l.getD (2 * k) 0) * 16 + nib (l.getD (2 * k + 1) 0)] := by
      rw [take_succ_getD (by rw [half_length]; omega), hg]
    rw [hstep] at ih
    obtain ⟨o', h', q1, q2, q3, q4⟩ := ho.append (hx.trans (.new h [.int .u8 (nib (l.getD (2 * k) 0) * 16 + nib (l.getD (2 * k + 1) 0) : Nat)])) (.new h _) (slB_one h _) (by simp [half_length]; omega)
    generalize nib (l.getD (2 * k) 0) = y1 at *
    generalize nib (l.getD (2 * k + 1) 0) = y2 at *
    generalize l.getD (2 * k) 0 = z1 at *
    generalize l.getD (2 * k + 1) 0 = z2 at *
    simp at q1
    rw [runA_loop] at hr
    simp (disch := omega) [ref01_Unhex_L0, t0, t5, t6, strOf_size, hn, s1, s2, d1, d2, repCells, q1, wrap_i64, wrap_u8] at hr
    exact ih o' h' _ _ (by omega) q2 q3 hr (by simp [t0]) (by simp [t3]) (by simp) (by simp; omega)

theorem ref01_Unhex {h : Heap} {l : List Nat} (h256 : ∀ x ∈ l, x < 256) (hl : l.length ≤ 140737488355328) :
    ∃ h' o, callA E "ref01.Unhex" [.string (strOf l)] h = some (.tuple #[o, .agg #[.int .i64 (unhexS l).2.1, .int .i64 (unhexS l).2.2]], h') ∧ Ext h h' ∧ OwnB h h' (unhexS l).1 o := by
  rw [callA_code e.ref01_Unhex]
  have hr2 : (l.length : Int).tmod 2 = ((l.length % 2 : Nat) : Int) := by rw [Int.tmod_eq_emod_of_nonneg (by omega)]; omega
  have hp := newBlk_get h [.int .i64 0, .int .i64 0]
  have hcheck := ref01_Unhex_check e (newBlk h [.int .i64 0, .int .i64 0]) h.length hp l h256 hl l.length 0
  have hlt : h.length < (newBlk h [.int .i64 0, .int .i64 0]).length := by rw [newBlk_len]; omega
  simp [ref01_Unhex_B]
  generalize hr : runA E (.loop ref01_Unhex_L1) _ _ = r
  rcases hcheck _ _ (by omega) (fun i hi => by omega) hr (by simp) (by simp) (by simp) with ⟨t', rfl, q4, q5, q7⟩ | ⟨t', i, rfl, q3, q4, q5, q6, q7⟩
  · have hb := bad_none q4
    by_cases hodd : l.length % 2 = 1
    · have hS : unhexS l = ([], 19, (l.length : Int)) := by simp [unhexS, hb, hodd]
      have hw := write_all (n := 2) (c := #[.int .i64 19, .int .i64 (l.length : Nat)]) hp rfl rfl
      have hrd := read_all (h := (newBlk h [.int .i64 0, .int .i64 0]).set h.length (.mem false [.int .i64 19, .int .i64 (l.length : Nat)])) (i := h.length) (ro := false) (cs := [.int .i64 19, .int .i64 (l.length : Nat)]) (n := 2) (List.getElem?_set_self hlt) rfl
      rw [hS]
      rw [hodd] at hr2
      refine ⟨_, .slice none 0 0, by simp [q5, q7, strOf_size, hr2, hw, hrd]; rfl, (Ext.new _ _).set (Nat.le_refl _) _, .nil⟩
    · have hS : unhexS l = (half l l.length, 0, 0) := by simp [unhexS, hb, hodd]
      have h0 : l.length % 2 = 0 := by omega
      rw [hS]
      rw [h0] at hr2
      have hbuild := ref01_Unhex_build e (newBlk h [.int .i64 0, .int .i64 0]) h.length l h256 hl h0 q4 (l.length / 2) 0 (.slice none 0 0) (newBlk h [.int .i64 0, .int .i64 0])
      simp [q5, strOf_size, hr2]
      generalize hr3 : runA E (.loop ref01_Unhex_L0) _ _ = r3
      obtain ⟨t2, h', o', rfl, j2, j3, j4, j5⟩ := hbuild _ _ (by omega) (.refl _) (by simpa using OwnB.nil) hr3 (by simp [q5]) (by simp [q7]) (by simp) (by simp)
      have hg := j2.get hp
      have hlt2 : h.length < h'.length := get_lt hg
      have hw := write_all (h := h') (i := h.length) (n := 2) (c := #[.int .i64 0, .int .i64 0]) hg rfl rfl
      have hrd := read_all (h := h'.set h.length (.mem false [.int .i64 0, .int .i64 0])) (i := h.length) (ro := false) (cs := [.int .i64 0, .int .i64 0]) (n := 2) (List.getElem?_set_self hlt2) rfl
      exact ⟨_, o', by simp [j4, j5, hw, hrd]; rfl, ((Ext.new _ _).trans j2).set (Nat.le_refl _) _, Own.old (j3.set (by rw [newBlk_len]; omega) _) (by rw [newBlk_len]; omega)⟩
  · have hb := bad_some q3 q4 q5
    have hS : unhexS l = ([], 3, (i : Int)) := by simp [unhexS, hb]
    have hrd := read_all (h := (newBlk h [.int .i64 0, .int .i64 0]).set h.length (.mem false [.int .i64 3, .int .i64 (i : Nat)])) (i := h.length) (ro := false) (cs := [.int .i64 3, .int .i64 (i : Nat)]) (n := 2) (List.getElem?_set_self hlt) rfl
    rw [hS]
    exact ⟨_, .slice none 0 0, by simp [q6, q7, hrd]; rfl, (Ext.new _ _).set (Nat.le_refl _) _, .nil⟩
end
end Go.Wb.P01

/- Chapter 13: sums of payloads, told alike. -/
import Derived.Test.YtlbekhmgpfbgnaaWbvP13c
set_option maxRecDepth 100000
set_option linter.all false
namespace Go.Wb.P13
open Go Go.Wb Go.Wb.Code Go.Wb.P01 Go.Wb.P03
def aheadS (V : Int) (p n : Nat) (s d : List Nat) : List Nat := adr V s ++ adr V d ++ (if V = 4 then [0, p, n / 256, n % 256] else [0, 0, n / 256, n % 256, 0, 0, 0, p])
theorem adr_256 {V : Int} {s : List Nat} (h : ∀ x ∈ s, x < 256) : ∀ x ∈ adr V s, x < 256 := by
 unfold adr
 split
 ·exact fun x hx => h x (List.mem_of_mem_take hx)
 ·exact h
theorem adr_len {V : Int} {s : List Nat} (h : s.length = 16) : (adr V s).length = if V = 4 then 4 else 16 := by
 unfold adr
 split
 ·simp [h]
 ·exact h
theorem ahead_256 {V : Int} {p n : Nat} {s d : List Nat} (hs : ∀ x ∈ s, x < 256) (hd : ∀ x ∈ d, x < 256) (hp : p < 256) (hn : n < 65536) : ∀ x ∈ aheadS V p n s d, x < 256 := by
 intro x hx
 unfold aheadS at hx
 rcases List.mem_append.1 hx with hx | hx
 ·rcases List.mem_append.1 hx with hx | hx
  ·exact adr_256 hs x hx
  ·exact adr_256 hd x hx
 ·split at hx <;> simp at hx <;> omega
theorem ahead_len {V : Int} {p n : Nat} {s d : List Nat} (hs : s.length = 16) (hd : d.length = 16) : (aheadS V p n s d).length ≤ 40 := by
 unfold aheadS
 rw [List.length_append, List.length_append, adr_len hs, adr_len hd]
 split <;> simp
theorem ws_app {x y : List Nat} (h : x.length % 2 = 0) : ws (x ++ y) = ws x + ws y := by
 rw [ws_w2, w2_app, if_pos h, ← ws_w2, ← ws_w2]
theorem ws_ahead {V : Int} {p n : Nat} {s d b : List Nat} (hs : s.length = 16) (hd : d.length = 16) (hp : p < 256) (hn : n < 65536) :
 ws (aheadS V p n s d ++ b) = ws (adr V s) + ws (adr V d) + (p + n) + ws b := by
 have e1 : (adr V s).length % 2 = 0 := by rw [adr_len hs]; split <;> rfl
 have e2 : (adr V d).length % 2 = 0 := by rw [adr_len hd]; split <;> rfl
 unfold aheadS
 split
 ·have h1 : (adr V s ++ adr V d).length % 2 = 0 := by rw [List.length_append]; omega
  have h2 : (adr V s ++ adr V d ++ [0, p, n / 256, n % 256]).length % 2 = 0 := by rw [List.length_append, List.length_cons, List.length_cons, List.length_cons, List.length_cons, List.length_nil]; omega
  rw [ws_app h2, ws_app h1, ws_app e1]
  have h3 : ws [0, p, n / 256, n % 256] = p + n := by
   rw [ws_w2]
   simp only [w2, Bool.not_true, Bool.not_false, if_true, Bool.false_eq_true, if_false]
   omega
  rw [h3]
 ·have h1 : (adr V s ++ adr V d).length % 2 = 0 := by rw [List.length_append]; omega
  have h2 : (adr V s ++ adr V d ++ [0, 0, n / 256, n % 256, 0, 0, 0, p]).length % 2 = 0 := by rw [List.length_append]; simp only [List.length_cons, List.length_nil]; omega
  rw [ws_app h2, ws_app h1, ws_app e1]
  have h3 : ws [0, 0, n / 256, n % 256, 0, 0, 0, p] = p + n := by
   rw [ws_w2]
   simp only [w2, Bool.not_true, Bool.not_false, if_true, Bool.false_eq_true, if_false]
   omega
  rw [h3]
theorem fold_addr {x y : Int} (hx : 0 ≤ x) (hy : 0 ≤ y) : foldS (foldS x + y) = foldS (x + y) := by
 have m := foldS_mod hx
 have z := foldS_zero hx
 have r := foldS_range hx
 generalize foldS x = a at *
 exact foldS_eq (by omega) (by omega) (by omega) (by omega)
theorem fold_add {x y : Int} (hx : 0 ≤ x) (hy : 0 ≤ y) : foldS (foldS x + foldS y) = foldS (x + y) := by
 rw [fold_addr hx (foldS_range hy).1, Int.add_comm, fold_addr hy hx, Int.add_comm]
theorem sum_ahead {V : Int} {p : Nat} {s d b : List Nat} (hs : s.length = 16) (hd : d.length = 16) (s256 : ∀ x ∈ s, x < 256) (d256 : ∀ x ∈ d, x < 256) (h256 : ∀ x ∈ b, x < 256) (hp : p < 256) (hn : b.length < 65536) :
 sumS (aheadS V p b.length s d ++ b) = totS V p s d b := by
 have hl := ahead_len (V := V) (p := p) (n := b.length) hs hd
 rw [sumS_eq' (fun x hx => by
  rcases List.mem_append.1 hx with hx | hx
  ·exact ahead_256 s256 d256 hp hn x hx
  ·exact h256 x hx) (by rw [List.length_append]; omega), ws_ahead hs hd hp hn]
 unfold totS
 rw [sumS_eq' h256 (by omega), sumS_eq' (adr_256 s256) (by rw [adr_len hs]; split <;> omega), sumS_eq' (adr_256 d256) (by rw [adr_len hd]; split <;> omega)]
 generalize ws (adr V s) = A
 generalize ws (adr V d) = B
 generalize ws b = C
 generalize b.length = n at *
 have s1 := fold_add (x := (C : Int)) (y := (A : Int)) (by omega) (by omega)
 have s2 := fold_add (x := (C : Int) + A) (y := (B : Int)) (by omega) (by omega)
 have s3 := fold_addr (x := (C : Int) + A + B) (y := (n : Int)) (by omega) (by omega)
 have s4 := fold_addr (x := (C : Int) + A + B + n) (y := (p : Int)) (by omega) (by omega)
 rw [s1, s2, s3, s4]
 congr 1
 omega
theorem wrong_ok {V P : Int} {n : Nat} (h : wrongS V P n = 0) : (V = 4 ∨ V = 6) ∧ (P = 6 ∨ P = 17) ∧ (8 : Int) ≤ n ∧ n < 65536 ∧ (P = 6 → 20 ≤ n) := by
 unfold wrongS at h
 split at h
 ·cases h
 ·split at h
  ·cases h
  ·split at h
   ·cases h
   ·split at h
    ·cases h
    ·rename_i h1 h2 h3 h4
     have hP : P = 6 ∨ P = 17 := by omega
     unfold leastS at h3
     refine ⟨by omega, hP, ?_, by omega, ?_⟩
     ·rcases hP with rfl | rfl <;> simp at h3 <;> omega
     ·intro hp; subst hp; simp at h3; omega
section
variable {E : EnvW} (e : WbvC13bEnv E) (e0 : WbvC13Env E) (e1 : WbvC01Env E) (e3 : WbvC03Env E) (ef : WbvC03fEnv E)
include e e3 ef in
theorem ports_total {KP : List PV} {V P : Int} {s d b : List Nat} (k : KeyOk KP V P s d) (hV : V = 4 ∨ V = 6) (hP : 0 ≤ P ∧ P < 65536) (hb : b.length < 65536) (h256 : ∀ x ∈ b, x < 256) :
 callV E "ports.total" [.v (.agg KP), vb b] [] = some ([rk .u16 (totS V P s d b)], [na, na], []) := by
 have r0 := sumS_range (b := b)
 have r1 := sumS_range (b := adr V s)
 have r2 := sumS_range (b := adr V d)
 have x1 := foldS_range (n := sumS b + sumS (adr V s)) (by omega)
 have x2 := foldS_range (n := foldS (sumS b + sumS (adr V s)) + sumS (adr V d)) (by omega)
 have x3 := foldS_range (n := foldS (foldS (sumS b + sumS (adr V s)) + sumS (adr V d)) + b.length) (by omega)
 exact tot_run e k hV hP hb (onesum_Sum e3 b h256) (onesum_Sum e3 _ (adr_256 k.s256)) (onesum_Sum e3 _ (adr_256 k.d256))
  (onesum_Add e3 ef _ _ r0 r1) (onesum_Add e3 ef _ _ x1 r2) (onesum_Add e3 ef _ _ x2 (by omega)) (onesum_Add e3 ef _ _ x3 hP)
end
end Go.Wb.P13

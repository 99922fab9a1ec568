/- Chapter 13: sums of payloads: the document's, and what is sealed. -/
import Derived.Test.YtlbekhmgpfbgnaaWbvP13d
set_option maxRecDepth 100000
set_option linter.all false
namespace Go.Wb.P13
open Go Go.Wb Go.Wb.Code Go.Wb.P01 Go.Wb.P03
section
variable {E : EnvW} (e : WbvC13bEnv E) (e0 : WbvC13Env E) (e1 : WbvC01Env E) (e3 : WbvC03Env E) (ef : WbvC03fEnv E)
include e1 in
theorem ref01_Join3 (a b c : List Nat) (hr : a.length + b.length + c.length ≤ room) : callV E "ref01.Join" [.v (.sl 3 [.sl a.length (bp a), .sl b.length (bp b), .sl c.length (bp c)])] [] = some ([ro (a ++ b ++ c)], [na], []) := by
 have h := ref01_Join e1 [a, b, c] (by simp; omega) (by unfold room; simp)
 have e2 : [a, b, c].flatten = a ++ b ++ c := by simp
 rw [e2] at h
 exact h
theorem ahead4_run {K : List CV} {n p : Nat} {S D X L : List Nat} (hn : n < 65536) (hp : p < 256)
 (b1 : K.length = 38) (b3 : cellC K 33 = some (.v (.sc (.int .i64 (p : Int)))))
 (b5 : ∃ KP, unv K = some KP) (hX : [PV.sc (.int .u8 0), .sc (.int .u8 (p : Int)), .sc (.int .u8 ((n : Int) / 256)), .sc (.int .u8 ((n : Int) % 256))] = bp X) (hXl : X.length = 4)
 (r1 : unv (List.take 4 K.tail) = some (bp S)) (r2 : unv (List.take 4 (List.drop 17 K)) = some (bp D))
 (q : callV E "ref01.Join" [.v (.sl 3 [.sl 4 (bp S), .sl 4 (bp D), .sl 4 (bp X)])] [] = some ([ro L], [na], [])) :
 ex E [.c ref13_ahead_K0, .c (.cut [1, 2] ref13_ahead_K1)] (updT (updT (updT botT 7 (tb true)) 2 (.box K)) 1 (ti .i64 n)) = some (.ret, updT botT 4 (.own L.length 1 (bp L))) := by
 obtain ⟨KP, b5⟩ := b5
 unfold ref13_ahead_K0
 simp (maxSteps := 1000000) (disch := first | omega | (simp only [lnS] <;> omega) | assumption | fail) [wwS, -List.getD_eq_getElem?_getD, -List.drop_drop, b1, b3, b5, hX, hXl, r1, r2, q]
theorem ahead16_run {K : List CV} {n p : Nat} {S D X L : List Nat} (hn : n < 65536) (hp : p < 256)
 (b1 : K.length = 38) (b3 : cellC K 33 = some (.v (.sc (.int .i64 (p : Int)))))
 (b5 : ∃ KP, unv K = some KP) (hX : [PV.sc (.int .u8 0), .sc (.int .u8 0), .sc (.int .u8 ((n : Int) / 256)), .sc (.int .u8 ((n : Int) % 256)), .sc (.int .u8 0), .sc (.int .u8 0), .sc (.int .u8 0), .sc (.int .u8 (p : Int))] = bp X) (hXl : X.length = 8)
 (r1 : unv (List.take 16 K.tail) = some (bp S)) (r2 : unv (List.take 16 (List.drop 17 K)) = some (bp D))
 (q : callV E "ref01.Join" [.v (.sl 3 [.sl 16 (bp S), .sl 16 (bp D), .sl 8 (bp X)])] [] = some ([ro L], [na], [])) :
 ex E [.c ref13_ahead_K0, .c (.cut [1, 2] ref13_ahead_K1)] (updT (updT (updT botT 7 (tb false)) 2 (.box K)) 1 (ti .i64 n)) = some (.ret, updT botT 4 (.own L.length 1 (bp L))) := by
 obtain ⟨KP, b5⟩ := b5
 unfold ref13_ahead_K0 ref13_ahead_K1
 simp (maxSteps := 1000000) (disch := first | omega | (simp only [lnS] <;> omega) | assumption | fail) [wwS, -List.getD_eq_getElem?_getD, -List.drop_drop, b1, b3, b5, hX, hXl, r1, r2, q]
include e e1 in
theorem ref13_ahead {KP : List PV} {V : Int} {p : Nat} {s d : List Nat} (k : KeyOk KP V p s d) (hV : V = 4 ∨ V = 6) (hp : p < 256) (n : Nat) (hn : n < 65536) :
 callV E "ref13.ahead" [.v (.agg KP), vi n] [] = some ([ro (aheadS V p n s d)], [na, na], []) := by
 obtain ⟨K, hK⟩ : ∃ K, List.map CV.v KP = K := ⟨_, rfl⟩
 have B := k.box hK
 have b1 := B.len
 have b2 := B.v
 have b3 := B.p
 have b5 := B.unv
 have ls := k.s16
 have ld := k.d16
 rcases hV with rfl | rfl
 ·have q := ref01_Join3 e1 (s.take 4) (d.take 4) [0, p, n / 256, n % 256] (by simp [ls, ld]; unfold room; omega)
  rw [show (s.take 4).length = 4 by simp [ls], show (d.take 4).length = 4 by simp [ld]] at q
  have hr : aheadS 4 p n s d = s.take 4 ++ d.take 4 ++ [0, p, n / 256, n % 256] := by unfold aheadS adr; rw [if_pos rfl, if_pos rfl, if_pos rfl]
  rw [hr]
  have h := ahead4_run (E := E) (K := K) (n := n) (p := p) (X := [0, p, n / 256, n % 256]) hn hp b1 b3 ⟨KP, b5⟩ rfl rfl B.s4 B.d4 q
  generalize s.take 4 ++ d.take 4 ++ [0, p, n / 256, n % 256] = L at *
  clear k B q
  refine callV_fn e.ref13_ahead fun nd hnd => ?_
  simp (maxSteps := 1000000) (disch := first | omega | (simp only [lnS] <;> omega) | assumption | fail) [ref13_ahead_B, wwS, -List.getD_eq_getElem?_getD, -List.drop_drop, hK, b1, b2, h]
 ·have q := ref01_Join3 e1 s d [0, 0, n / 256, n % 256, 0, 0, 0, p] (by simp [ls, ld]; unfold room; omega)
  rw [ls, ld] at q
  have hr : aheadS 6 p n s d = s ++ d ++ [0, 0, n / 256, n % 256, 0, 0, 0, p] := by unfold aheadS adr; rw [if_neg (by decide), if_neg (by decide), if_neg (by decide)]
  rw [hr]
  have h := ahead16_run (E := E) (K := K) (n := n) (p := p) (X := [0, 0, n / 256, n % 256, 0, 0, 0, p]) hn hp b1 b3 ⟨KP, b5⟩ rfl rfl B.s16 B.d16 q
  generalize s ++ d ++ [0, 0, n / 256, n % 256, 0, 0, 0, p] = L at *
  clear k B q
  refine callV_fn e.ref13_ahead fun nd hnd => ?_
  simp (maxSteps := 1000000) (disch := first | omega | (simp only [lnS] <;> omega) | assumption | fail) [ref13_ahead_B, wwS, -List.getD_eq_getElem?_getD, -List.drop_drop, hK, b1, b2, h]
def sum2S (V P : Int) (s d b : List Nat) : Int × Int := if wrongS V P b.length = 0 then (totS V P s d b, 0) else (0, wrongS V P b.length)
include e e0 e3 ef in
theorem ports_Sum {KP : List PV} {V P : Int} {s d : List Nat} (k : KeyOk KP V P s d) (b : List Nat) (hb : b.length ≤ room) (h256 : ∀ x ∈ b, x < 256) :
 callV E "ports.Sum" [.v (.agg KP), vb b] [] = some ([rk .u16 (sum2S V P s d b).1, ri (sum2S V P s d b).2], [na, na], []) := by
 obtain ⟨K, hK⟩ : ∃ K, List.map CV.v KP = K := ⟨_, rfl⟩
 have B := k.box hK
 have b1 := B.len
 have b4 := B.all
 have b5 := B.unv
 have b6 := B.tk
 have q := ports_check e e0 k b hb
 unfold sum2S
 by_cases hw : wrongS V P b.length = 0
 ·rw [if_pos hw]
  have ok := wrong_ok hw
  rw [hw] at q
  have q2 := ports_total e e3 ef k ok.1 (by omega) ok.2.2.2.1 h256
  generalize totS V P s d b = T at *
  clear k B
  refine callV_fn e.ports_Sum fun nd hnd => ?_
  simp (maxSteps := 1000000) (disch := first | omega | (simp only [lnS] <;> omega) | assumption | fail) [ports_Sum_B, wwS, -List.getD_eq_getElem?_getD, -List.drop_drop, hK, b1, b4, b5, b6, q, q2]
 ·rw [if_neg hw]
  generalize wrongS V P b.length = w at *
  clear k B
  refine callV_fn e.ports_Sum fun nd hnd => ?_
  simp (maxSteps := 1000000) (disch := first | omega | (simp only [lnS] <;> omega) | assumption | fail) [ports_Sum_B, wwS, -List.getD_eq_getElem?_getD, -List.drop_drop, hK, b1, b4, b5, b6, q, hw]
include e e0 e1 e3 ef in
theorem ref13_Sum {KP : List PV} {V P : Int} {s d : List Nat} (k : KeyOk KP V P s d) (b : List Nat) (hb : b.length ≤ room) (h256 : ∀ x ∈ b, x < 256) :
 callV E "ref13.Sum" [.v (.agg KP), vb b] [] = some ([rk .u16 (sum2S V P s d b).1, ri (sum2S V P s d b).2], [na, na], []) := by
 obtain ⟨K, hK⟩ : ∃ K, List.map CV.v KP = K := ⟨_, rfl⟩
 have B := k.box hK
 have b1 := B.len
 have b4 := B.all
 have b5 := B.unv
 have b6 := B.tk
 have q := ref13_wrong e e0 k b hb
 unfold sum2S
 by_cases hw : wrongS V P b.length = 0
 ·rw [if_pos hw]
  have ok := wrong_ok hw
  rw [hw] at q
  obtain ⟨p, rfl⟩ : ∃ p : Nat, P = p := ⟨P.toNat, by omega⟩
  have hp : p < 256 := by omega
  have hl := ahead_len (V := V) (p := p) (n := b.length) k.s16 k.d16
  have h2 := ahead_256 (V := V) k.s256 k.d256 hp ok.2.2.2.1
  have q1 := ref13_ahead e e1 k ok.1 hp b.length ok.2.2.2.1
  have q2 := ref01_Join2 e1 (aheadS V p b.length s d) b (by unfold room; omega)
  have q3 := ref03_Sum e3 (aheadS V p b.length s d ++ b) (by rw [List.length_append]; unfold room; omega) (fun x hx => by
   rcases List.mem_append.1 hx with hx | hx
   ·exact h2 x hx
   ·exact h256 x hx)
  rw [sum_ahead k.s16 k.d16 k.s256 k.d256 h256 hp ok.2.2.2.1] at q3
  generalize totS V p s d b = T at *
  generalize aheadS V p b.length s d ++ b = Y at *
  generalize aheadS V p b.length s d = X at *
  clear k B
  refine callV_fn e.ref13_Sum fun nd hnd => ?_
  simp (maxSteps := 1000000) (disch := first | omega | (simp only [lnS] <;> omega) | assumption | fail) [ref13_Sum_B, wwS, -List.getD_eq_getElem?_getD, -List.drop_drop, hK, b1, b4, b5, b6, q, q1, q2, q3]
 ·rw [if_neg hw]
  generalize wrongS V P b.length = w at *
  clear k B
  refine callV_fn e.ref13_Sum fun nd hnd => ?_
  simp (maxSteps := 1000000) (disch := first | omega | (simp only [lnS] <;> omega) | assumption | fail) [ref13_Sum_B, wwS, -List.getD_eq_getElem?_getD, -List.drop_drop, hK, b1, b4, b5, b6, q, hw]
end
end Go.Wb.P13

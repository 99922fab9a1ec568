/- Chapter 13: what is sealed is good. -/
import Derived.Test.YtlbekhmgpfbgnaaWbvP13g
set_option maxRecDepth 100000
set_option linter.all false
namespace Go.Wb.P13
open Go Go.Wb Go.Wb.Code Go.Wb.P01 Go.Wb.P03
section
variable {E : EnvW} (e : WbvC13bEnv E) (e0 : WbvC13Env E) (e1 : WbvC01Env E) (e3 : WbvC03Env E) (ef : WbvC03fEnv E)
theorem seals_loop {b X : List Nat} {a : Nat} (ha : a < 1000) (hl : X.length = b.length) (hb : b.length < 65536) (h : ∀ i, i ≠ a → i ≠ a + 1 → X.getD i 0 = b.getD i 0) : ∀ (m k N : Nat), k + m = b.length → N = b.length →
 runV E (.loop [1, 5, 15, 16] law13_PortsSeals_L0) (updT (updT (updT (updT botT 16 (ti .i64 (k : Int))) 15 (ti .i64 (a : Int))) 5 (.own N 1 (bp X))) 1 (.val (.sl N (bp b)))) = some (.exit 0, botT)
 | 0, k, N, h1, h2 => by
   have c1 : ¬ (k : Int) < N := by omega
   have c2 : ¬ k < N := by omega
   refine loop_out (by simp (maxSteps := 1000000) (disch := first | omega | (simp only [lnS] <;> omega) | assumption | fail) [law13_PortsSeals_L0, wwS, -List.getD_eq_getElem?_getD, -List.drop_drop, c1, c2]; first | exact ⟨rfl, rfl⟩ | exact rfl) ?_ (by simp)
   rfl
 | m + 1, k, N, h1, h2 => by
   have ih := seals_loop ha hl hb h m (k + 1) N (by omega) h2
   have c1 : (k : Int) < N := by omega
   have c2 : k < N := by omega
   by_cases g1 : k = a
   ·have c3 : ((k : Int) = (a : Int)) = True := eq_true (by omega)
    have c4 : (k = a) = True := eq_true g1
    refine loop_go (by simp (maxSteps := 1000000) (disch := first | omega | (simp only [lnS] <;> omega) | assumption | fail) [law13_PortsSeals_L0, wwS, -List.getD_eq_getElem?_getD, -List.drop_drop, law13_PortsSeals_K1, c1, c2, c3, c4]; rfl) ?_
    exact ih
   ·have c3 : ¬ (k : Int) = (a : Int) := by omega
    by_cases g2 : k = a + 1
    ·have c4 : ((k : Int) = (a : Int) + 1) = True := eq_true (by omega)
     refine loop_go (by simp (maxSteps := 1000000) (disch := first | omega | (simp only [lnS] <;> omega) | assumption | fail) [law13_PortsSeals_L0, wwS, -List.getD_eq_getElem?_getD, -List.drop_drop, law13_PortsSeals_K1, c1, c2, c3, c4, g1]; rfl) ?_
     exact ih
    ·have c4 : ¬ (k : Int) = (a : Int) + 1 := by omega
     have hx := h k g1 g2
     have h3 : N = X.length := by omega
     have h4 : N = b.length := h2
     refine loop_go (by simp (maxSteps := 1000000) (disch := first | omega | (simp only [lnS] <;> omega) | assumption | fail) [law13_PortsSeals_L0, wwS, -List.getD_eq_getElem?_getD, -List.drop_drop, law13_PortsSeals_K1, c1, c2, c3, c4, g1, hx]; rfl) ?_
     exact ih
theorem swap_box {KP : List PV} {V P : Int} {s d : List Nat} (k : KeyOk KP V P s d) {K : List CV} (hK : List.map CV.v KP = K) {K1 : List CV} (hK1 : List.take 1 K ++ (List.map CV.v (bp d) ++ List.drop 17 K) = K1) {K2 : List CV} (hK2 : List.take 17 K1 ++ (List.map CV.v (bp s) ++ List.drop 33 K1) = K2) :
 K1.length = 38 ∧ K1.all isV = true ∧ List.map CV.v (KP.take 1 ++ (KP.drop 17).take 16 ++ (KP.drop 1).take 16 ++ KP.drop 33) = K2 := by
 have hall : ∀ l : List PV, (l.map CV.v).all isV = true := fun l => by simp [List.all_map, Function.comp_def, isV]
 have e1 : K1 = (KP.take 1 ++ bp d ++ KP.drop 17).map CV.v := by rw [← hK1, ← hK]; simp [List.map_take, List.map_drop]
 have ld : (bp d).length = 16 := by simp [mp, k.d16]
 have l1 : (KP.take 1).length = 1 := by simp [k.len]
 have l2 : (KP.take 1 ++ bp d).length = 17 := by rw [List.length_append, l1, ld]
 refine ⟨?_, by rw [e1]; exact hall _, ?_⟩
 ·rw [e1, List.length_map, List.length_append, l2, List.length_drop, k.len]
 ·rw [← hK2, e1, k.ks, k.kd]
  rw [← List.map_take, ← List.map_drop]
  have hC : KP.drop 33 = (KP.drop 17).drop 16 := by rw [List.drop_drop]
  rw [hC]
  generalize KP.take 1 ++ bp d = A at *
  generalize KP.drop 17 = C at *
  have t1 : (A ++ C).take 17 = A := by rw [← l2]; exact List.take_left
  have t2 : (A ++ C).drop 33 = C.drop 16 := by
   rw [show (33 : Nat) = 17 + 16 from rfl, ← List.drop_drop, ← l2, List.drop_left]
  rw [t1, t2]
  simp [List.map_append]
include e in
theorem seals_run17 {KP KQ : List PV} {K K1 K2 : List CV} {b X s d : List Nat} {T : Int} (hK : List.map CV.v KP = K) (hK1 : List.take 1 K ++ (List.map CV.v (bp d) ++ List.drop 17 K) = K1) (hK2 : List.take 17 K1 ++ (List.map CV.v (bp s) ++ List.drop 33 K1) = K2)
 (b1 : K.length = 38) (b4 : K.all isV = true) (b5 : unv K = some KP) (b6 : List.take 38 K = K) (d1 : K1.length = 38) (d4 : K1.all isV = true)
 (f1 : K2.length = 38) (f3 : cellC K2 33 = some (.v (.sc (.int .i64 17)))) (f4 : K2.all isV = true) (f5 : unv K2 = some KQ) (f6 : List.take 38 K2 = K2)
 (r1 : unv (List.take 16 K.tail) = some (bp s)) (r2 : unv (List.take 16 (List.drop 17 K)) = some (bp d)) (ls : s.length = 16) (ld : d.length = 16) (hX : X.length = b.length) (hb : b.length < 65536)
 (q1 : callV E "ports.Seal" [.v (.agg KP), vb b] [] = some ([.o b.length 1 (bp X), ri 0], [na, na], [])) (q2 : callV E "ports.Sum" [.v (.agg KP), vb b] [] = some ([rk .u16 T, ri 0], [na, na], []))
 (q3 : callV E "ports.Sum" [.v (.agg KP), .v (.sl b.length (bp X))] [] = some ([rk .u16 65535, ri 0], [na, na], [])) (q4 : callV E "ports.Seal" [.v (.agg KP), .v (.sl b.length (bp X))] [] = some ([.o b.length 1 (bp X), ri 0], [na, na], []))
 (q5 : callV E "ports.Sum" [.v (.agg KQ), .v (.sl b.length (bp X))] [] = some ([rk .u16 65535, ri 0], [na, na], []))
 (q6 : callV E "ref01.SameBytes" [.v (.sl b.length (bp X)), .v (.sl b.length (bp X))] [] = some ([rB true], [na, na], [])) (hs : callV E "law13.sure" [] [] = some ([rB true], [], []))
 (hl : runV E (.loop [1, 5, 15, 16] law13_PortsSeals_L0) (updT (updT (updT (updT botT 16 (ti .i64 0)) 15 (ti .i64 6)) 5 (.own b.length 1 (bp X))) 1 (.val (.sl b.length (bp b)))) = some (.exit 0, botT)) :
 callV E "law13.PortsSeals" [.v (.agg KP), vb b] [] = some ([rB true], [na, na], []) := by
 refine callV_fn e.law13_PortsSeals fun nd hnd => ?_
 simp (maxSteps := 1000000) (disch := first | omega | (simp only [lnS] <;> omega) | assumption | fail) [law13_PortsSeals_B, wwS, -List.getD_eq_getElem?_getD, -List.drop_drop, law13_PortsSeals_K10, law13_PortsSeals_K9, law13_PortsSeals_K0, law13_PortsSeals_K8, law13_PortsSeals_K7, law13_PortsSeals_K6, law13_PortsSeals_K5, law13_PortsSeals_K4, law13_PortsSeals_K3, law13_PortsSeals_K2, hK, hK1, hK2, b1, b4, b5, b6, d1, d4, f1, f3, f4, f5, f6, r1, r2, ls, ld, q1, q2, q3, q4, q5, q6, hs, hl]
include e in
theorem seals_run6 {KP KQ : List PV} {K K1 K2 : List CV} {b X s d : List Nat} {T : Int} (hK : List.map CV.v KP = K) (hK1 : List.take 1 K ++ (List.map CV.v (bp d) ++ List.drop 17 K) = K1) (hK2 : List.take 17 K1 ++ (List.map CV.v (bp s) ++ List.drop 33 K1) = K2)
 (b1 : K.length = 38) (b4 : K.all isV = true) (b5 : unv K = some KP) (b6 : List.take 38 K = K) (d1 : K1.length = 38) (d4 : K1.all isV = true)
 (f1 : K2.length = 38) (f3 : cellC K2 33 = some (.v (.sc (.int .i64 6)))) (f4 : K2.all isV = true) (f5 : unv K2 = some KQ) (f6 : List.take 38 K2 = K2)
 (r1 : unv (List.take 16 K.tail) = some (bp s)) (r2 : unv (List.take 16 (List.drop 17 K)) = some (bp d)) (ls : s.length = 16) (ld : d.length = 16) (hX : X.length = b.length) (hb : b.length < 65536)
 (q1 : callV E "ports.Seal" [.v (.agg KP), vb b] [] = some ([.o b.length 1 (bp X), ri 0], [na, na], [])) (q2 : callV E "ports.Sum" [.v (.agg KP), vb b] [] = some ([rk .u16 T, ri 0], [na, na], []))
 (q3 : callV E "ports.Sum" [.v (.agg KP), .v (.sl b.length (bp X))] [] = some ([rk .u16 65535, ri 0], [na, na], [])) (q4 : callV E "ports.Seal" [.v (.agg KP), .v (.sl b.length (bp X))] [] = some ([.o b.length 1 (bp X), ri 0], [na, na], []))
 (q5 : callV E "ports.Sum" [.v (.agg KQ), .v (.sl b.length (bp X))] [] = some ([rk .u16 65535, ri 0], [na, na], []))
 (q6 : callV E "ref01.SameBytes" [.v (.sl b.length (bp X)), .v (.sl b.length (bp X))] [] = some ([rB true], [na, na], [])) (hs : callV E "law13.sure" [] [] = some ([rB true], [], []))
 (hl : runV E (.loop [1, 5, 15, 16] law13_PortsSeals_L0) (updT (updT (updT (updT botT 16 (ti .i64 0)) 15 (ti .i64 16)) 5 (.own b.length 1 (bp X))) 1 (.val (.sl b.length (bp b)))) = some (.exit 0, botT)) :
 callV E "law13.PortsSeals" [.v (.agg KP), vb b] [] = some ([rB true], [na, na], []) := by
 refine callV_fn e.law13_PortsSeals fun nd hnd => ?_
 simp (maxSteps := 1000000) (disch := first | omega | (simp only [lnS] <;> omega) | assumption | fail) [law13_PortsSeals_B, wwS, -List.getD_eq_getElem?_getD, -List.drop_drop, law13_PortsSeals_K10, law13_PortsSeals_K9, law13_PortsSeals_K0, law13_PortsSeals_K8, law13_PortsSeals_K7, law13_PortsSeals_K6, law13_PortsSeals_K5, law13_PortsSeals_K4, law13_PortsSeals_K3, law13_PortsSeals_K2, hK, hK1, hK2, b1, b4, b5, b6, d1, d4, f1, f3, f4, f5, f6, r1, r2, ls, ld, q1, q2, q3, q4, q5, q6, hs, hl]
include e in
theorem seals_run0 {KP : List PV} {K : List CV} {b : List Nat} {w : Int} (hK : List.map CV.v KP = K) (hw : ¬ w = 0)
 (b1 : K.length = 38) (b4 : K.all isV = true) (b5 : unv K = some KP) (b6 : List.take 38 K = K)
 (q1 : callV E "ports.Seal" [.v (.agg KP), vb b] [] = some ([.o 0 1 [], ri w], [na, na], [])) (q2 : callV E "ports.Sum" [.v (.agg KP), vb b] [] = some ([rk .u16 0, ri w], [na, na], []))
 (hs : callV E "law13.sure" [] [] = some ([rB true], [], [])) :
 callV E "law13.PortsSeals" [.v (.agg KP), vb b] [] = some ([rB true], [na, na], []) := by
 refine callV_fn e.law13_PortsSeals fun nd hnd => ?_
 simp (maxSteps := 1000000) (disch := first | omega | (simp only [lnS] <;> omega) | assumption | fail) [law13_PortsSeals_B, wwS, -List.getD_eq_getElem?_getD, -List.drop_drop, law13_PortsSeals_K10, law13_PortsSeals_K9, law13_PortsSeals_K0, hK, b1, b4, b5, b6, q1, q2, hs, hw]
include e e0 e1 e3 ef in
theorem law_PortsSeals (B : Nat) (avs : List PV) (ha : PArgs B [.st [.int .i64, .arr 16 (.int .u8), .arr 16 (.int .u8), .int .i64, .int .i64, .bool, .int .i64, .int .i64], .sl 1 1 (.int .u8)] avs) :
 ∃ o ho, callV E "law13.PortsSeals" (avs.map .v) [] = some ([rB true], o, ho) := by
 simp only [PArgs] at ha
 obtain ⟨v0, _, rfl, a0, v1, _, rfl, a1, rfl⟩ := ha
 obtain ⟨KP, V, P, s, d, rfl, k, KQ, kq, hKQ⟩ := pv_key a0
 obtain ⟨b, rfl, h256, hlen, _⟩ := pv_bytesR a1
 obtain ⟨K, hK⟩ : ∃ K, List.map CV.v KP = K := ⟨_, rfl⟩
 have B := k.box hK
 refine ⟨[na, na], [], ?_⟩
 have q1 := ports_Seal e e0 e1 e3 ef k b hlen h256
 have q2 := ports_Sum e e0 e3 ef k b hlen h256
 by_cases hw : wrongS V P b.length = 0
 ·have ok := wrong_ok hw
  have so := seal_ok k.s16 k.d16 k.s256 k.d256 h256 hw
  have hz : (sealS V P s d b).2 = 0 := by unfold sealS; rw [if_pos hw]
  rw [hz] at q1
  generalize (sealS V P s d b).1 = X at *
  have hXl : X.length ≤ room := by rw [so.len]; exact hlen
  have q3 := ports_Sum e e0 e3 ef k X hXl so.byte
  have q4 := ports_Seal e e0 e1 e3 ef k X hXl so.byte
  have q5 := ports_Sum e e0 e3 ef kq X hXl so.byte
  have q6 := ref01_SameBytes e1 X X hXl
  rw [decide_eq_true rfl] at q6
  unfold sum2S at q2 q3 q5
  rw [if_pos hw] at q2
  rw [if_pos so.wr, so.sum] at q3
  rw [if_pos so.wr, so.sum'] at q5
  rw [so.again] at q4
  obtain ⟨K1, hK1⟩ : ∃ K1, List.take 1 K ++ (List.map CV.v (bp d) ++ List.drop 17 K) = K1 := ⟨_, rfl⟩
  obtain ⟨K2, hK2⟩ : ∃ K2, List.take 17 K1 ++ (List.map CV.v (bp s) ++ List.drop 33 K1) = K2 := ⟨_, rfl⟩
  obtain ⟨d1, d4, hK3⟩ := swap_box k hK hK1 hK2
  rw [← hKQ] at hK3
  have F := kq.box hK3
  have q1 : callV E "ports.Seal" [.v (.agg KP), vb b] [] = some ([.o b.length 1 (bp X), ri 0], [na, na], []) := by rw [show (CV.o b.length 1 (bp X)) = CV.o X.length 1 (bp X) by rw [so.len]]; exact q1
  have q3 : callV E "ports.Sum" [.v (.agg KP), .v (.sl b.length (bp X))] [] = some ([rk .u16 65535, ri 0], [na, na], []) := by rw [← so.len]; exact q3
  have q4 : callV E "ports.Seal" [.v (.agg KP), .v (.sl b.length (bp X))] [] = some ([.o b.length 1 (bp X), ri 0], [na, na], []) := by rw [← so.len]; exact q4
  have q5 : callV E "ports.Sum" [.v (.agg KQ), .v (.sl b.length (bp X))] [] = some ([rk .u16 65535, ri 0], [na, na], []) := by rw [← so.len]; exact q5
  have q6 : callV E "ref01.SameBytes" [.v (.sl b.length (bp X)), .v (.sl b.length (bp X))] [] = some ([rB true], [na, na], []) := by rw [← so.len]; exact q6
  have hl := seals_loop (E := E) (a := atS P) (by unfold atS; split <;> omega) so.len ok.2.2.2.1 so.other b.length 0 b.length (by omega) rfl
  rcases ok.2.1 with hP | hP
  ·subst hP
   exact seals_run6 e hK hK1 hK2 B.len B.all B.unv B.tk d1 d4 F.len F.p F.all F.unv F.tk B.s16 B.d16 k.s16 k.d16 so.len ok.2.2.2.1 q1 q2 q3 q4 q5 q6 (sure e) hl
  ·subst hP
   exact seals_run17 e hK hK1 hK2 B.len B.all B.unv B.tk d1 d4 F.len F.p F.all F.unv F.tk B.s16 B.d16 k.s16 k.d16 so.len ok.2.2.2.1 q1 q2 q3 q4 q5 q6 (sure e) hl
 ·unfold sealS at q1
  unfold sum2S at q2
  rw [if_neg hw] at q1 q2
  exact seals_run0 e hK hw B.len B.all B.unv B.tk q1 q2 (sure e)
end
end Go.Wb.P13

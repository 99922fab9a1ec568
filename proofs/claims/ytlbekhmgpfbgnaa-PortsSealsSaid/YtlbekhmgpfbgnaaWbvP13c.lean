/- Chapter 13: sums of payloads. -/
import Derived.Test.YtlbekhmgpfbgnaaWbvP13b
set_option maxRecDepth 100000
set_option linter.all false
namespace Go.Wb.P13
open Go Go.Wb Go.Wb.Code Go.Wb.P01 Go.Wb.P03
def adr (V : Int) (s : List Nat) : List Nat := if V = 4 then s.take 4 else s
def totS (V P : Int) (s d b : List Nat) : Int := foldS (foldS (foldS (foldS (sumS b + sumS (adr V s)) + sumS (adr V d)) + b.length) + P)
theorem foldS_range {n : Int} (hn : 0 ≤ n) : 0 ≤ foldS n ∧ foldS n < 65536 := by unfold foldS; split <;> omega
section
variable {E : EnvW} (e : WbvC13bEnv E) (e0 : WbvC13Env E) (e1 : WbvC01Env E) (e3 : WbvC03Env E) (ef : WbvC03fEnv E)
theorem tot_loop {S D b : List Nat} {N M : Nat} {KP : List PV} {A0 A1 A2 sS sD : Int}
 (q1 : callV E "onesum.Sum" [.v (.sl N (bp S))] [] = some ([rk .u16 sS], [na], [])) (q2 : callV E "onesum.Sum" [.v (.sl N (bp D))] [] = some ([rk .u16 sD], [na], []))
 (a1 : callV E "onesum.Add" [vk .u16 A0, vk .u16 sS] [] = some ([rk .u16 A1], [na, na], [])) (a2 : callV E "onesum.Add" [vk .u16 A1, vk .u16 sD] [] = some ([rk .u16 A2], [na, na], [])) :
 runV E (.loop [1, 2, 6, 20, 21] ports_total_L0) (updT (updT (updT (updT (updT botT 21 (ti .i64 0)) 20 (.val (.agg [.sl N (bp S), .sl N (bp D)]))) 6 (ti .u16 A0)) 2 (.pf KP 0)) 1 (.val (.sl M (bp b)))) =
  some (.exit 0, updT (updT (updT botT 6 (ti .u16 A2)) 2 (.pf KP 0)) 1 (.val (.sl M (bp b)))) := by
 refine loop_go (by simp (maxSteps := 1000000) (disch := first | omega | (simp only [lnS] <;> omega) | assumption | fail) [ports_total_L0, wwS, -List.getD_eq_getElem?_getD, -List.drop_drop, q1, a1]; rfl) ?_
 refine loop_go (by simp (maxSteps := 1000000) (disch := first | omega | (simp only [lnS] <;> omega) | assumption | fail) [ports_total_L0, wwS, -List.getD_eq_getElem?_getD, -List.drop_drop, q2, a2]; rfl) ?_
 refine loop_out (by simp (maxSteps := 1000000) (disch := first | omega | (simp only [lnS] <;> omega) | assumption | fail) [ports_total_L0, wwS, -List.getD_eq_getElem?_getD, -List.drop_drop]; first | exact ⟨rfl, rfl⟩ | exact rfl) ?_ (by simp)
 rfl
theorem tot_k0_4 {K : List CV} {KP : List PV} {P : Int} {S D b : List Nat} (hP : 0 ≤ P ∧ P < 65536) (hb : b.length < 65536) {A0 A2 A3 A4 : Int}
 (b1 : K.length = 38) (b5 : unv K = some KP) (b6 : cellP KP 33 = some (.sc (.int .i64 P)))
 (r1 : unv (List.take 4 K.tail) = some (bp S)) (r2 : unv (List.take 4 (List.drop 17 K)) = some (bp D))
 (h : runV E (.loop [1, 2, 6, 20, 21] ports_total_L0) (updT (updT (updT (updT (updT botT 21 (ti .i64 0)) 20 (.val (.agg [.sl 4 (bp S), .sl 4 (bp D)]))) 6 (ti .u16 A0)) 2 (.pf KP 0)) 1 (.val (.sl b.length (bp b)))) =
  some (.exit 0, updT (updT (updT botT 6 (ti .u16 A2)) 2 (.pf KP 0)) 1 (.val (.sl b.length (bp b)))))
 (a3 : callV E "onesum.Add" [vk .u16 A2, vk .u16 b.length] [] = some ([rk .u16 A3], [na, na], [])) (a4 : callV E "onesum.Add" [vk .u16 A3, vk .u16 P] [] = some ([rk .u16 A4], [na, na], [])) :
 ex E [.c ports_total_K0] (updT (updT (updT (updT botT 6 (ti .u16 A0)) 5 (ti .i64 4)) 2 (.box K)) 1 (.val (.sl b.length (bp b)))) = some (.ret, updT botT 4 (ti .u16 A4)) := by
 unfold ports_total_K0
 simp (maxSteps := 1000000) (disch := first | omega | (simp only [lnS] <;> omega) | assumption | fail) [wwS, -List.getD_eq_getElem?_getD, -List.drop_drop, b1, b5, b6, r1, r2, h, a3, a4]
theorem tot_k0_16 {K : List CV} {KP : List PV} {P : Int} {S D b : List Nat} (hP : 0 ≤ P ∧ P < 65536) (hb : b.length < 65536) {A0 A2 A3 A4 : Int}
 (b1 : K.length = 38) (b5 : unv K = some KP) (b6 : cellP KP 33 = some (.sc (.int .i64 P)))
 (r1 : unv (List.take 16 K.tail) = some (bp S)) (r2 : unv (List.take 16 (List.drop 17 K)) = some (bp D))
 (h : runV E (.loop [1, 2, 6, 20, 21] ports_total_L0) (updT (updT (updT (updT (updT botT 21 (ti .i64 0)) 20 (.val (.agg [.sl 16 (bp S), .sl 16 (bp D)]))) 6 (ti .u16 A0)) 2 (.pf KP 0)) 1 (.val (.sl b.length (bp b)))) =
  some (.exit 0, updT (updT (updT botT 6 (ti .u16 A2)) 2 (.pf KP 0)) 1 (.val (.sl b.length (bp b)))))
 (a3 : callV E "onesum.Add" [vk .u16 A2, vk .u16 b.length] [] = some ([rk .u16 A3], [na, na], [])) (a4 : callV E "onesum.Add" [vk .u16 A3, vk .u16 P] [] = some ([rk .u16 A4], [na, na], [])) :
 ex E [.c ports_total_K0] (updT (updT (updT (updT botT 6 (ti .u16 A0)) 5 (ti .i64 16)) 2 (.box K)) 1 (.val (.sl b.length (bp b)))) = some (.ret, updT botT 4 (ti .u16 A4)) := by
 unfold ports_total_K0
 simp (maxSteps := 1000000) (disch := first | omega | (simp only [lnS] <;> omega) | assumption | fail) [wwS, -List.getD_eq_getElem?_getD, -List.drop_drop, b1, b5, b6, r1, r2, h, a3, a4]
include e in
theorem tot_run {KP : List PV} {V P : Int} {s d b : List Nat} (k : KeyOk KP V P s d) (hV : V = 4 ∨ V = 6) (hP : 0 ≤ P ∧ P < 65536) (hb : b.length < 65536) {A0 A1 A2 A3 A4 sS sD : Int}
 (q0 : callV E "onesum.Sum" [vb b] [] = some ([rk .u16 A0], [na], []))
 (q1 : callV E "onesum.Sum" [vb (adr V s)] [] = some ([rk .u16 sS], [na], [])) (q2 : callV E "onesum.Sum" [vb (adr V d)] [] = some ([rk .u16 sD], [na], []))
 (a1 : callV E "onesum.Add" [vk .u16 A0, vk .u16 sS] [] = some ([rk .u16 A1], [na, na], [])) (a2 : callV E "onesum.Add" [vk .u16 A1, vk .u16 sD] [] = some ([rk .u16 A2], [na, na], []))
 (a3 : callV E "onesum.Add" [vk .u16 A2, vk .u16 b.length] [] = some ([rk .u16 A3], [na, na], [])) (a4 : callV E "onesum.Add" [vk .u16 A3, vk .u16 P] [] = some ([rk .u16 A4], [na, na], [])) :
 callV E "ports.total" [.v (.agg KP), vb b] [] = some ([rk .u16 A4], [na, na], []) := by
 obtain ⟨K, hK⟩ : ∃ K, List.map CV.v KP = K := ⟨_, rfl⟩
 have B := k.box hK
 have b1 := B.len
 have b2 := B.v
 have b5 := B.unv
 have b6 : cellP KP 33 = some (.sc (.int .i64 P)) := k.p
 have ls := k.s16
 have ld := k.d16
 rcases hV with rfl | rfl
 ·have e1 : adr 4 s = s.take 4 := by unfold adr; rw [if_pos rfl]
  have e2 : adr 4 d = d.take 4 := by unfold adr; rw [if_pos rfl]
  have n1 : (s.take 4).length = 4 := by simp [ls]
  have n2 : (d.take 4).length = 4 := by simp [ld]
  rw [e1] at q1
  rw [e2] at q2
  have r1 := B.s4
  have r2 := B.d4
  generalize s.take 4 = S at *
  generalize d.take 4 = D at *
  have q1 : callV E "onesum.Sum" [.v (.sl 4 (bp S))] [] = some ([rk .u16 sS], [na], []) := by rw [← n1]; exact q1
  have q2 : callV E "onesum.Sum" [.v (.sl 4 (bp D))] [] = some ([rk .u16 sD], [na], []) := by rw [← n2]; exact q2
  have h := tot_loop (E := E) (b := b) (M := b.length) (KP := KP) q1 q2 a1 a2
  have k0 := tot_k0_4 (E := E) hP hb b1 b5 b6 r1 r2 h a3 a4
  clear q1 q2 a1 a2 a3 a4 h k B
  have o : callV E "ports.total" [.v (.agg KP), vb b] [] = some ([rk .u16 A4], [na, na], []) := by
   refine callV_fn e.ports_total fun nd hnd => ?_
   simp (maxSteps := 1000000) (disch := first | omega | (simp only [lnS] <;> omega) | assumption | fail) [ports_total_B, ports_total_K1, wwS, -List.getD_eq_getElem?_getD, -List.drop_drop, hK, b1, b2, q0, k0]
  exact o
 ·have e1 : adr 6 s = s := by unfold adr; rw [if_neg (by decide)]
  have e2 : adr 6 d = d := by unfold adr; rw [if_neg (by decide)]
  rw [e1] at q1
  rw [e2] at q2
  have r1 := B.s16
  have r2 := B.d16
  have q1 : callV E "onesum.Sum" [.v (.sl 16 (bp s))] [] = some ([rk .u16 sS], [na], []) := by rw [← ls]; exact q1
  have q2 : callV E "onesum.Sum" [.v (.sl 16 (bp d))] [] = some ([rk .u16 sD], [na], []) := by rw [← ld]; exact q2
  have h := tot_loop (E := E) (b := b) (M := b.length) (KP := KP) q1 q2 a1 a2
  have k0 := tot_k0_16 (E := E) hP hb b1 b5 b6 r1 r2 h a3 a4
  clear q1 q2 a1 a2 a3 a4 h k B
  have o : callV E "ports.total" [.v (.agg KP), vb b] [] = some ([rk .u16 A4], [na, na], []) := by
   refine callV_fn e.ports_total fun nd hnd => ?_
   simp (maxSteps := 1000000) (disch := first | omega | (simp only [lnS] <;> omega) | assumption | fail) [ports_total_B, ports_total_K1, wwS, -List.getD_eq_getElem?_getD, -List.drop_drop, hK, b1, b2, q0, k0]
  exact o
end
end Go.Wb.P13

/- Chapter 13: what is sealed. -/
import Derived.Test.YtlbekhmgpfbgnaaWbvP13e
set_option maxRecDepth 100000
set_option linter.all false
namespace Go.Wb.P13
open Go Go.Wb Go.Wb.Code Go.Wb.P01 Go.Wb.P03
def set2 (b : List Nat) (a n : Nat) : List Nat := (b.set a (n / 256)).set (a + 1) (n % 256)
theorem set2_len {b : List Nat} {a n : Nat} : (set2 b a n).length = b.length := by simp [set2]
theorem set2_256 {b : List Nat} {a n : Nat} (h : ∀ x ∈ b, x < 256) (hn : n < 65536) : ∀ x ∈ set2 b a n, x < 256 := by
 intro x hx
 unfold set2 at hx
 rcases List.mem_or_eq_of_mem_set hx with hx | hx
 ·rcases List.mem_or_eq_of_mem_set hx with hx | hx
  ·exact h x hx
  ·omega
 ·omega
theorem put_set2 {b : List Nat} {a n : Nat} (ha : a + 2 ≤ b.length) (hn : n < 65536) : putS b a 2 n = (set2 b a n, 0) := by
 have hs : spansE b.length (a : Int) 2 = 0 := by
  unfold spansE
  rw [if_neg (by omega), if_neg (by omega)]
 have hz : putE b.length (a : Int) 2 n = 0 := by
  unfold putE
  have : ¬ 256 ^ (2 : Int).toNat ≤ n := by show ¬ 256 ^ 2 ≤ n; omega
  rw [hs, if_neg (by omega)]
 unfold putS
 rw [if_pos hz]
 congr 1
 show b.take a ++ (dig 2 n ++ b.drop (a + 2)) = _
 unfold set2
 rw [List.set_eq_take_append_cons_drop, if_pos (by simp; omega), List.take_set, List.drop_set_of_lt (by omega)]
 have h1 : (b.take (a + 1)).set a (n / 256) = b.take a ++ [n / 256] := by
  rw [List.set_eq_take_append_cons_drop, if_pos (by simp; omega), List.take_take, List.drop_take]
  simp
 rw [h1]
 simp [dig]
 omega
def atS (P : Int) : Nat := if P = 17 then 6 else 16
def ckS (V P : Int) (s d b : List Nat) : Nat := let n := 65535 - (totS V P s d (set2 b (atS P) 0)).toNat; if n = 0 ∧ P = 17 then 65535 else n
def sealS (V P : Int) (s d b : List Nat) : List Nat × Int := if wrongS V P b.length = 0 then (set2 (set2 b (atS P) 0) (atS P) (ckS V P s d b), 0) else ([], wrongS V P b.length)
theorem totS_range {V P : Int} {s d b : List Nat} (hP : 0 ≤ P) : 0 ≤ totS V P s d b ∧ totS V P s d b < 65536 := by
 unfold totS
 have r0 := sumS_range (b := b)
 have r1 := sumS_range (b := adr V s)
 have r2 := sumS_range (b := adr V d)
 have x1 := foldS_range (n := sumS b + sumS (adr V s)) (by omega)
 have x2 := foldS_range (n := foldS (sumS b + sumS (adr V s)) + sumS (adr V d)) (by omega)
 have x3 := foldS_range (n := foldS (foldS (sumS b + sumS (adr V s)) + sumS (adr V d)) + b.length) (by omega)
 exact foldS_range (by omega)
theorem ckS_lt {V P : Int} {s d b : List Nat} : ckS V P s d b < 65536 := by
 unfold ckS
 simp only
 split <;> omega
section
variable {E : EnvW} (e : WbvC13bEnv E) (e0 : WbvC13Env E) (e1 : WbvC01Env E) (e3 : WbvC03Env E) (ef : WbvC03fEnv E)
include e in
theorem seal17 {KP : List PV} {K : List CV} {b X Y : List Nat} {T : Int} {n : Nat} (hT : 0 ≤ T ∧ T < 65536) (hn : (n : Int) = if T = 65535 then 65535 else 65535 - T)
 (hK : List.map CV.v KP = K) (b1 : K.length = 38) (b3 : cellC K 33 = some (.v (.sc (.int .i64 17)))) (b4 : K.all isV = true) (b5 : unv K = some KP) (b6 : List.take 38 K = K)
 (q : callV E "ports.check" [.v (.agg KP), vb b] [] = some ([ri 0], [na, na], []))
 (p1 : callV E "octet.Put" [vb b, vi 6, vi 2, vk .u64 0] [] = some ([ro X, ri 0], [na, na, na, na], []))
 (t : callV E "ports.total" [.v (.agg KP), vb X] [] = some ([rk .u16 T], [na, na], []))
 (p2 : callV E "octet.Put" [vb X, vi 6, vi 2, vk .u64 (n : Int)] [] = some ([ro Y, ri 0], [na, na, na, na], [])) :
 callV E "ports.Seal" [.v (.agg KP), vb b] [] = some ([ro Y, ri 0], [na, na], []) := by
 by_cases h : T = 65535
 ·rw [if_pos h] at hn
  rw [hn] at p2
  subst h
  refine callV_fn e.ports_Seal fun nd hnd => ?_
  simp (maxSteps := 1000000) (disch := first | omega | (simp only [lnS] <;> omega) | assumption | fail) [ports_Seal_B, wwS, -List.getD_eq_getElem?_getD, -List.drop_drop, hK, b1, b3, b4, b5, b6, q, p1, t, p2]
 ·rw [if_neg h] at hn
  rw [hn] at p2
  have c : ¬ 65535 - T = 0 := by omega
  refine callV_fn e.ports_Seal fun nd hnd => ?_
  simp (maxSteps := 1000000) (disch := first | omega | (simp only [lnS] <;> omega) | assumption | fail) [ports_Seal_B, wwS, -List.getD_eq_getElem?_getD, -List.drop_drop, hK, b1, b3, b4, b5, b6, q, p1, t, p2, c]
include e in
theorem seal6 {KP : List PV} {K : List CV} {b X Y : List Nat} {T : Int} {n : Nat} (hT : 0 ≤ T ∧ T < 65536) (hn : (n : Int) = 65535 - T)
 (hK : List.map CV.v KP = K) (b1 : K.length = 38) (b3 : cellC K 33 = some (.v (.sc (.int .i64 6)))) (b4 : K.all isV = true) (b5 : unv K = some KP) (b6 : List.take 38 K = K)
 (q : callV E "ports.check" [.v (.agg KP), vb b] [] = some ([ri 0], [na, na], []))
 (p1 : callV E "octet.Put" [vb b, vi 16, vi 2, vk .u64 0] [] = some ([ro X, ri 0], [na, na, na, na], []))
 (t : callV E "ports.total" [.v (.agg KP), vb X] [] = some ([rk .u16 T], [na, na], []))
 (p2 : callV E "octet.Put" [vb X, vi 16, vi 2, vk .u64 (n : Int)] [] = some ([ro Y, ri 0], [na, na, na, na], [])) :
 callV E "ports.Seal" [.v (.agg KP), vb b] [] = some ([ro Y, ri 0], [na, na], []) := by
 rw [hn] at p2
 by_cases h : T = 65535
 ·subst h
  have p2 : callV E "octet.Put" [vb X, vi 16, vi 2, vk .u64 0] [] = some ([ro Y, ri 0], [na, na, na, na], []) := p2
  refine callV_fn e.ports_Seal fun nd hnd => ?_
  simp (maxSteps := 1000000) (disch := first | omega | (simp only [lnS] <;> omega) | assumption | fail) [ports_Seal_B, wwS, -List.getD_eq_getElem?_getD, -List.drop_drop, hK, b1, b3, b4, b5, b6, q, p1, t, p2]
 ·have c : ¬ 65535 - T = 0 := by omega
  refine callV_fn e.ports_Seal fun nd hnd => ?_
  simp (maxSteps := 1000000) (disch := first | omega | (simp only [lnS] <;> omega) | assumption | fail) [ports_Seal_B, wwS, -List.getD_eq_getElem?_getD, -List.drop_drop, hK, b1, b3, b4, b5, b6, q, p1, t, p2, c]
include e e0 e1 e3 ef in
theorem ports_Seal {KP : List PV} {V P : Int} {s d : List Nat} (k : KeyOk KP V P s d) (b : List Nat) (hb : b.length ≤ room) (h256 : ∀ x ∈ b, x < 256) :
 callV E "ports.Seal" [.v (.agg KP), vb b] [] = some ([ro (sealS V P s d b).1, ri (sealS V P s d b).2], [na, na], []) := by
 obtain ⟨K, hK⟩ : ∃ K, List.map CV.v KP = K := ⟨_, rfl⟩
 have B := k.box hK
 have q := ports_check e e0 k b hb
 have b1 := B.len
 have b3 := B.p
 have b4 := B.all
 have b5 := B.unv
 have b6 := B.tk
 unfold sealS
 by_cases hw : wrongS V P b.length = 0
 ·rw [if_pos hw]
  rw [hw] at q
  have ok := wrong_ok hw
  have hx := set2_256 (a := atS P) h256 (show 0 < 65536 by decide)
  have hxl := set2_len (b := b) (a := atS P) (n := 0)
  have t := ports_total e e3 ef k (b := set2 b (atS P) 0) ok.1 (by omega) (by rw [hxl]; exact ok.2.2.2.1) hx
  have hT := totS_range (V := V) (P := P) (s := s) (d := d) (b := set2 b (atS P) 0) (by omega)
  have hn := ckS_lt (V := V) (P := P) (s := s) (d := d) (b := b)
  have hck : ckS V P s d b = (let n := 65535 - (totS V P s d (set2 b (atS P) 0)).toNat; if n = 0 ∧ P = 17 then 65535 else n) := rfl
  generalize ckS V P s d b = n at *
  rcases ok.2.1 with hP | hP
  ·subst hP
   have ha : atS 6 = 16 := rfl
   rw [ha] at t hT hck hx hxl ⊢
   have p1 := octet_Put e1 b hb 16 2 (by unfold I64; decide) (by unfold I64; decide) 0 (by decide)
   rw [show ((16 : Int)) = ((16 : Nat) : Int) from rfl, put_set2 (by have := ok.2.2.2.2 rfl; omega) (by decide)] at p1
   have p2 := octet_Put e1 (set2 b 16 0) (by rw [hxl]; exact hb) 16 2 (by unfold I64; decide) (by unfold I64; decide) n (by omega)
   rw [show ((16 : Int)) = ((16 : Nat) : Int) from rfl, put_set2 (by rw [hxl]; have := ok.2.2.2.2 rfl; omega) hn] at p2
   refine seal6 e hT ?_ hK b1 b3 b4 b5 b6 q p1 t p2
   rw [hck]
   simp only
   rw [if_neg (by omega)]
   omega
  ·subst hP
   have ha : atS 17 = 6 := rfl
   rw [ha] at t hT hck hx hxl ⊢
   have p1 := octet_Put e1 b hb 6 2 (by unfold I64; decide) (by unfold I64; decide) 0 (by decide)
   rw [show ((6 : Int)) = ((6 : Nat) : Int) from rfl, put_set2 (by omega) (by decide)] at p1
   have p2 := octet_Put e1 (set2 b 6 0) (by rw [hxl]; exact hb) 6 2 (by unfold I64; decide) (by unfold I64; decide) n (by omega)
   rw [show ((6 : Int)) = ((6 : Nat) : Int) from rfl, put_set2 (by rw [hxl]; omega) hn] at p2
   refine seal17 e hT ?_ hK b1 b3 b4 b5 b6 q p1 t p2
   rw [hck]
   generalize totS V 17 s d (set2 b 6 0) = T at *
   show (((if 65535 - T.toNat = 0 ∧ (17 : Int) = 17 then 65535 else 65535 - T.toNat : Nat)) : Int) = _
   by_cases h1 : T = 65535
   ·rw [if_pos h1, if_pos ⟨by omega, rfl⟩]; rfl
   ·rw [if_neg h1, if_neg (by omega)]; omega
 ·rw [if_neg hw]
  generalize wrongS V P b.length = w at *
  clear k B
  refine callV_fn e.ports_Seal fun nd hnd => ?_
  simp (maxSteps := 1000000) (disch := first | omega | (simp only [lnS] <;> omega) | assumption | fail) [ports_Seal_B, wwS, -List.getD_eq_getElem?_getD, -List.drop_drop, hK, b1, b4, b5, b6, q, hw]
include e in
theorem rseal6 {KP : List PV} {K : List CV} {b : List Nat} {T : Int} {n : Nat} (hT : 0 ≤ T ∧ T < 65536) (hn : (n : Int) = 65535 - T) (hl : 18 ≤ b.length) (hb : b.length < 65536)
 (hK : List.map CV.v KP = K) (b1 : K.length = 38) (b3 : cellC K 33 = some (.v (.sc (.int .i64 6)))) (b4 : K.all isV = true) (b5 : unv K = some KP) (b6 : List.take 38 K = K)
 (q : callV E "ref13.wrong" [.v (.agg KP), vb b] [] = some ([ri 0], [na, na], []))
 (p1 : callV E "ref01.Join" [.v (.sl 1 [.sl b.length (bp b)])] [] = some ([ro b], [na], []))
 (t : callV E "ref13.Sum" [.v (.agg KP), .v (.sl b.length (bp ((b.set 16 0).set 17 0)))] [] = some ([rk .u16 T, ri 0], [na, na], [])) :
 callV E "ref13.Seal" [.v (.agg KP), vb b] [] = some ([.o b.length 1 (bp ((((b.set 16 0).set 17 0).set 16 (n / 256)).set 17 (n % 256))), ri 0], [na, na], []) := by
 have hn2 : 65535 - T = (n : Int) := hn.symm
 have hn3 : n < 65536 := by omega
 by_cases h : n = 0
 ·subst h
  have hn2 : 65535 - T = 0 := hn2
  clear hn
  refine callV_fn e.ref13_Seal fun nd hnd => ?_
  simp (maxSteps := 1000000) (disch := first | omega | (simp only [lnS] <;> omega) | assumption | fail) [ref13_Seal_B, wwS, -List.getD_eq_getElem?_getD, -List.drop_drop, hK, b1, b3, b4, b5, b6, q, p1, t, hn2]
 ·have c : ¬ (n : Int) = 0 := by omega
  clear hn
  refine callV_fn e.ref13_Seal fun nd hnd => ?_
  simp (maxSteps := 1000000) (disch := first | omega | (simp only [lnS] <;> omega) | assumption | fail) [ref13_Seal_B, wwS, -List.getD_eq_getElem?_getD, -List.drop_drop, hK, b1, b3, b4, b5, b6, q, p1, t, hn2, c, h]
  rw [show ((n : Int) / 256).toNat = n / 256 by omega, show ((n : Int) % 256).toNat = n % 256 by omega]
include e in
theorem rseal17 {KP : List PV} {K : List CV} {b : List Nat} {T : Int} {n : Nat} (hT : 0 ≤ T ∧ T < 65536) (hn : (n : Int) = if T = 65535 then 65535 else 65535 - T) (hl : 8 ≤ b.length) (hb : b.length < 65536)
 (hK : List.map CV.v KP = K) (b1 : K.length = 38) (b3 : cellC K 33 = some (.v (.sc (.int .i64 17)))) (b4 : K.all isV = true) (b5 : unv K = some KP) (b6 : List.take 38 K = K)
 (q : callV E "ref13.wrong" [.v (.agg KP), vb b] [] = some ([ri 0], [na, na], []))
 (p1 : callV E "ref01.Join" [.v (.sl 1 [.sl b.length (bp b)])] [] = some ([ro b], [na], []))
 (t : callV E "ref13.Sum" [.v (.agg KP), .v (.sl b.length (bp ((b.set 6 0).set 7 0)))] [] = some ([rk .u16 T, ri 0], [na, na], [])) :
 callV E "ref13.Seal" [.v (.agg KP), vb b] [] = some ([.o b.length 1 (bp ((((b.set 6 0).set 7 0).set 6 (n / 256)).set 7 (n % 256))), ri 0], [na, na], []) := by
 have hn3 : n < 65536 := by split at hn <;> omega
 by_cases h : T = 65535
 ·rw [if_pos h] at hn
  have hn4 : n = 65535 := by omega
  subst h hn4
  clear hn
  refine callV_fn e.ref13_Seal fun nd hnd => ?_
  simp (maxSteps := 1000000) (disch := first | omega | (simp only [lnS] <;> omega) | assumption | fail) [ref13_Seal_B, wwS, -List.getD_eq_getElem?_getD, -List.drop_drop, hK, b1, b3, b4, b5, b6, q, p1, t]
 ·rw [if_neg h] at hn
  have hn2 : 65535 - T = (n : Int) := hn.symm
  have h0 : ¬ n = 0 := by omega
  have c : ¬ (n : Int) = 0 := by omega
  clear hn
  refine callV_fn e.ref13_Seal fun nd hnd => ?_
  simp (maxSteps := 1000000) (disch := first | omega | (simp only [lnS] <;> omega) | assumption | fail) [ref13_Seal_B, wwS, -List.getD_eq_getElem?_getD, -List.drop_drop, hK, b1, b3, b4, b5, b6, q, p1, t, hn2, c, h0]
  rw [show ((n : Int) / 256).toNat = n / 256 by omega, show ((n : Int) % 256).toNat = n % 256 by omega]
include e e0 e1 e3 ef in
theorem ref13_Seal {KP : List PV} {V P : Int} {s d : List Nat} (k : KeyOk KP V P s d) (b : List Nat) (hb : b.length ≤ room) (h256 : ∀ x ∈ b, x < 256) :
 callV E "ref13.Seal" [.v (.agg KP), vb b] [] = some ([ro (sealS V P s d b).1, ri (sealS V P s d b).2], [na, na], []) := by
 obtain ⟨K, hK⟩ : ∃ K, List.map CV.v KP = K := ⟨_, rfl⟩
 have B := k.box hK
 have q := ref13_wrong e e0 k b hb
 have b1 := B.len
 have b3 := B.p
 have b4 := B.all
 have b5 := B.unv
 have b6 := B.tk
 unfold sealS
 by_cases hw : wrongS V P b.length = 0
 ·rw [if_pos hw]
  rw [hw] at q
  have ok := wrong_ok hw
  have hx := set2_256 (a := atS P) h256 (show 0 < 65536 by decide)
  have hxl := set2_len (b := b) (a := atS P) (n := 0)
  have t := ref13_Sum e e0 e1 e3 ef k (set2 b (atS P) 0) (by rw [hxl]; exact hb) hx
  unfold sum2S at t
  rw [hxl, if_pos hw] at t
  have p1 := ref01_Join1 e1 b hb
  have hT := totS_range (V := V) (P := P) (s := s) (d := d) (b := set2 b (atS P) 0) (by omega)
  have hck : ckS V P s d b = (let n := 65535 - (totS V P s d (set2 b (atS P) 0)).toNat; if n = 0 ∧ P = 17 then 65535 else n) := rfl
  have hyl : (set2 (set2 b (atS P) 0) (atS P) (ckS V P s d b)).length = b.length := by rw [set2_len, set2_len]
  generalize ckS V P s d b = n at *
  rcases ok.2.1 with hP | hP
  ·subst hP
   have ha : atS 6 = 16 := rfl
   rw [ha] at t hT hck hx hxl hyl ⊢
   have t2 : callV E "ref13.Sum" [.v (.agg KP), .v (.sl b.length (bp ((b.set 16 0).set 17 0)))] [] = some ([rk .u16 (totS V 6 s d (set2 b 16 0)), ri 0], [na, na], []) := by
    rw [show b.length = (set2 b 16 0).length from hxl.symm]; exact t
   have r := rseal6 e hT (n := n) (by
    rw [hck]
    generalize totS V 6 s d (set2 b 16 0) = T at *
    show (((if 65535 - T.toNat = 0 ∧ (6 : Int) = 17 then 65535 else 65535 - T.toNat : Nat)) : Int) = _
    rw [if_neg (by omega)]; omega) (by have := ok.2.2.2.2 rfl; omega) ok.2.2.2.1 hK b1 b3 b4 b5 b6 q p1 t2
   show callV E "ref13.Seal" [.v (.agg KP), vb b] [] = some ([.o (set2 (set2 b 16 0) 16 n).length 1 (bp (set2 (set2 b 16 0) 16 n)), ri 0], [na, na], [])
   rw [hyl]
   exact r
  ·subst hP
   have ha : atS 17 = 6 := rfl
   rw [ha] at t hT hck hx hxl hyl ⊢
   have t2 : callV E "ref13.Sum" [.v (.agg KP), .v (.sl b.length (bp ((b.set 6 0).set 7 0)))] [] = some ([rk .u16 (totS V 17 s d (set2 b 6 0)), ri 0], [na, na], []) := by
    rw [show b.length = (set2 b 6 0).length from hxl.symm]; exact t
   have r := rseal17 e hT (n := n) (by
    rw [hck]
    generalize totS V 17 s d (set2 b 6 0) = T at *
    show (((if 65535 - T.toNat = 0 ∧ (17 : Int) = 17 then 65535 else 65535 - T.toNat : Nat)) : Int) = _
    by_cases h1 : T = 65535
    ·rw [if_pos h1, if_pos ⟨by omega, rfl⟩]; rfl
    ·rw [if_neg h1, if_neg (by omega)]; omega) (by omega) ok.2.2.2.1 hK b1 b3 b4 b5 b6 q p1 t2
   show callV E "ref13.Seal" [.v (.agg KP), vb b] [] = some ([.o (set2 (set2 b 6 0) 6 n).length 1 (bp (set2 (set2 b 6 0) 6 n)), ri 0], [na, na], [])
   rw [hyl]
   exact r
 ·rw [if_neg hw]
  generalize wrongS V P b.length = w at *
  clear k B
  refine callV_fn e.ref13_Seal fun nd hnd => ?_
  simp (maxSteps := 1000000) (disch := first | omega | (simp only [lnS] <;> omega) | assumption | fail) [ref13_Seal_B, wwS, -List.getD_eq_getElem?_getD, -List.drop_drop, hK, b1, b4, b5, b6, q, hw]
end
end Go.Wb.P13

/- Chapter 9: the laws. -/
import Derived.Test.YtlbekhmgpfbgnaaWbvP09f
import Derived.Test.YtlbekhmgpfbgnaaWbA6
set_option maxRecDepth 100000
set_option linter.all false
namespace Go.Wb.P09
open Go Go.Wb Go.Wb.Code Go.Wb.P02
theorem find_name : ∀ d, d < 64 → findN 64 0 (nameB d) = some d := by decide +kernel
theorem name_len : ∀ d, d < 64 → (nameB d).length ≤ 4 := by decide +kernel
theorem findN_spec {s : List Nat} : ∀ (m k g : Nat), findN m k s = some g → g < k + m ∧ nameB g = s
 | 0, k, g, h => by cases h
 | m + 1, k, g, h => by
   rw [findN] at h
   split at h
   ·rename_i hn
    injection h with h
    subst h
    exact ⟨by omega, hn⟩
   ·have := findN_spec m (k + 1) g h
    exact ⟨by omega, this.2⟩
theorem parse_name {d : Nat} (hd : d < 64) : parseS (nameB d) = (d, 0) := parseS_some (find_name d hd)
theorem name_inj {d x : Nat} (hd : d < 64) (hx : x < 64) (h : nameB d = nameB x) : d = x := by
 have h1 := find_name d hd
 rw [h, find_name x hx] at h1
 injection h1 with h1
 exact h1.symm
theorem parse_ok {s : List Nat} (h : (parseS s).2 = 0) : (parseS s).1 < 64 ∧ s.length ≤ 4 := by
 cases hf : findN 64 0 s with
 | some g =>
   rw [parseS_some hf]
   have := findN_spec 64 0 g hf
   rw [← this.2]
   exact ⟨by simpa using this.1, name_len g (by omega)⟩
 | none =>
   rw [parseS_none hf] at h ⊢
   unfold numG at h ⊢
   split at h
   ·cases h
   ·rename_i hc
    rw [if_neg hc]
    unfold endS at h ⊢
    have hl : s.length ≤ 2 := by
     rcases Nat.lt_or_ge 2 s.length with h1 | h1
     ·exact (hc (.inr (.inl h1))).elim
     ·exact h1
    split at h
    ·cases h
    ·rename_i n hn
     split at h
     ·rename_i h64
      simp only [if_pos h64]
      exact ⟨h64, by omega⟩
     ·cases h
theorem pv_u8 {B : Nat} {p : PV} (hv : PVal B (.int .u8) p) : ∃ a : Nat, p = .sc (.int .u8 (a : Int)) ∧ a < 256 := by
 obtain ⟨n, rfl, h⟩ := pv_int hv
 have h := wf_u8 h
 obtain ⟨m, rfl⟩ : ∃ m : Nat, n = m := ⟨n.toNat, by omega⟩
 exact ⟨m, rfl, by omega⟩
section
variable {E : EnvW} (e : WbvC09Env E) (e2 : WbvC02Env E)
include e e2 in
theorem live : callV E "law09.live" [] [] = some ([rB true], [], []) := by
 have s1 : callV E "point.Split" [vk .u8 185] [] = some ([ri 46, ri 1], [na], []) := point_Split e 185 (by decide)
 have j1 : callV E "point.Join" [vi 46, vi 1] [] = some ([rk .u8 185, ri 0], [na, na], []) := point_Join e 46 1 (by unfold I64; decide) (by unfold I64; decide)
 have j2 : callV E "point.Join" [vi 64, vi 9] [] = some ([rk .u8 0, ri 14], [na, na], []) := point_Join e 64 9 (by unfold I64; decide) (by unfold I64; decide)
 have j3 : callV E "point.Join" [vi 63, vi 4] [] = some ([rk .u8 0, ri 1], [na, na], []) := point_Join e 63 4 (by unfold I64; decide) (by unfold I64; decide)
 have a1 : callV E "point.Af" [vi 4, vi 3] [] = some ([ri 38, ri 0], [na, na], []) := point_Af e 4 3 (by unfold I64; decide) (by unfold I64; decide)
 have p1 : callV E "point.Parse" [vs ⟨#[97, 102, 52, 51]⟩] [] = some ([ri 38, ri 0], [na], []) := by
  have h := point_Parse e e2 [97, 102, 52, 51] (by unfold All256; decide) (by decide)
  rw [show parseS [97, 102, 52, 51] = (38, 0) by decide +kernel] at h
  exact h
 have p2 : callV E "point.Parse" [vs ⟨#[51, 56]⟩] [] = some ([ri 38, ri 0], [na], []) := by
  have h := point_Parse e e2 [51, 56] (by unfold All256; decide) (by decide)
  rw [show parseS [51, 56] = (38, 0) by decide +kernel] at h
  exact h
 have p3 : callV E "point.Parse" [vs ⟨#[54, 52]⟩] [] = some ([ri 0, ri 14], [na], []) := by
  have h := point_Parse e e2 [54, 52] (by unfold All256; decide) (by decide)
  rw [show parseS [54, 52] = (0, 14) by decide +kernel] at h
  exact h
 have p4 : callV E "point.Parse" [vs ⟨#[65, 70, 52, 51]⟩] [] = some ([ri 0, ri 3], [na], []) := by
  have h := point_Parse e e2 [65, 70, 52, 51] (by unfold All256; decide) (by decide)
  rw [show parseS [65, 70, 52, 51] = (0, 3) by decide +kernel] at h
  exact h
 have n1 : callV E "point.Name" [vi 46] [] = some ([rs ⟨#[101, 102]⟩], [na], []) := by
  have h := point_Name e e2 46 (by decide)
  rw [show nameB 46 = [101, 102] by decide +kernel] at h
  exact h
 have n2 : callV E "point.Name" [vi 8] [] = some ([rs ⟨#[99, 115, 49]⟩], [na], []) := by
  have h := point_Name e e2 8 (by decide)
  rw [show nameB 8 = [99, 115, 49] by decide +kernel] at h
  exact h
 have n3 : callV E "point.Name" [vi 3] [] = some ([rs ⟨#[51]⟩], [na], []) := by
  have h := point_Name e e2 3 (by decide)
  rw [show nameB 3 = [51] by decide +kernel] at h
  exact h
 have t1 : callV E "point.Sort" [vi 44] [] = some ([rs ⟨#[118, 111, 105, 99, 101]⟩], [na], []) := by
  have h := point_Sort e e2 44 (by decide)
  rw [show sortB 44 = [118, 111, 105, 99, 101] by decide +kernel] at h
  exact h
 have r1 : callV E "point.Prec" [vi 38] [] = some ([ri 3], [na], []) := point_Prec e 38 (by decide)
 have r2 : callV E "point.Prec" [vi 46] [] = some ([ri 0], [na], []) := point_Prec e 46 (by decide)
 refine callV_fn e.law09_live fun nd hnd => ?_
 simp (maxSteps := 1000000) (disch := first | omega | (simp only [lnS] <;> omega) | assumption | fail) [law09_live_B, wwS, -List.getD_eq_getElem?_getD, -List.drop_drop, s1, j1, j2, j3, a1, p1, p2, p3, p4, n1, n2, n3, t1, r1, r2, ByteArray.toList_eq]
include e in
theorem bytes_run {b : Nat} {p0 p1 q0 q1 j1 j2 a1 a2 : Int} (hb : b < 256) (hlive : callV E "law09.live" [] [] = some ([rB true], [], []))
 (s1 : callV E "point.Split" [vk .u8 b] [] = some ([ri (b / 4 : Nat), ri (b % 4 : Nat)], [na], [])) (s2 : callV E "ref09.Split" [vk .u8 b] [] = some ([ri (b / 4 : Nat), ri (b % 4 : Nat)], [na], []))
 (x1 : callV E "point.Join" [vi p0, vi p1] [] = some ([rk .u8 j1, ri j2], [na, na], [])) (x2 : callV E "ref09.Join" [vi p0, vi p1] [] = some ([rk .u8 j1, ri j2], [na, na], []))
 (y1 : callV E "point.Af" [vi q0, vi q1] [] = some ([ri a1, ri a2], [na, na], [])) (y2 : callV E "ref09.Af" [vi q0, vi q1] [] = some ([ri a1, ri a2], [na, na], []))
 (z : callV E "point.Join" [vi (b / 4 : Nat), vi (b % 4 : Nat)] [] = some ([rk .u8 b, ri 0], [na, na], [])) :
 callV E "law09.PointBytes" [vk .u8 b, .v (.agg [.sc (.int .i64 p0), .sc (.int .i64 p1)]), .v (.agg [.sc (.int .i64 q0), .sc (.int .i64 q1)])] [] = some ([rB true], [na, na, na], []) := by
 generalize b / 4 = u at *
 generalize b % 4 = v at *
 refine callV_fn e.law09_PointBytes fun nd hnd => ?_
 simp (maxSteps := 1000000) (disch := first | omega | (simp only [lnS] <;> omega) | assumption | fail) [law09_PointBytes_B, wwS, -List.getD_eq_getElem?_getD, -List.drop_drop, s1, s2, x1, x2, y1, y2, z, hlive]
include e e2 in
theorem law_PointBytes (B : Nat) (avs : List PV) (ha : PArgs B [.int .u8, .arr 2 (.int .i64), .arr 2 (.int .i64)] avs) : ∃ o ho, callV E "law09.PointBytes" (avs.map .v) [] = some ([rB true], o, ho) := by
 simp only [PArgs] at ha
 obtain ⟨v0, _, rfl, a0, v1, _, rfl, a1, v2, _, rfl, a2, rfl⟩ := ha
 obtain ⟨b, rfl, hb⟩ := pv_u8 a0
 obtain ⟨l1, hl1, rfl, hw1⟩ := pv_arr a1
 obtain ⟨l2, hl2, rfl, hw2⟩ := pv_arr a2
 match l1, hl1, l2, hl2 with
 | [p0, p1], _, [q0, q1], _ =>
 have h1 := wf_i64 (hw1 p0 (by simp))
 have h2 := wf_i64 (hw1 p1 (by simp))
 have h3 := wf_i64 (hw2 q0 (by simp))
 have h4 := wf_i64 (hw2 q1 (by simp))
 refine ⟨[na, na, na], [], ?_⟩
 have z := point_Join e (b / 4 : Nat) (b % 4 : Nat) (by unfold I64; omega) (by unfold I64; omega)
 rw [show joinS ((b / 4 : Nat) : Int) ((b % 4 : Nat) : Int) = ((b : Int), 0) by
  unfold joinS; rw [if_pos (by omega), if_pos (by omega)]; congr 1; omega] at z
 exact bytes_run e hb (live e e2) (point_Split e b hb) (ref09_Split e b hb) (point_Join e p0 p1 h1 h2) (ref09_Join e p0 p1 h1 h2) (point_Af e q0 q1 h3 h4) (ref09_Af e q0 q1 h3 h4) z
include e in
theorem names_run {d : Int} {s S N : ByteArray} {P x f : Int} (hlive : callV E "law09.live" [] [] = some ([rB true], [], []))
 (p1 : callV E "point.Parse" [vs s] [] = some ([ri x, ri f], [na], [])) (p2 : callV E "ref09.Parse" [vs s] [] = some ([ri x, ri f], [na], []))
 (s1 : callV E "point.Sort" [vi d] [] = some ([rs S], [na], [])) (s2 : callV E "ref09.Sort" [vi d] [] = some ([rs S], [na], []))
 (r1 : callV E "point.Prec" [vi d] [] = some ([ri P], [na], [])) (r2 : callV E "ref09.Prec" [vi d] [] = some ([ri P], [na], []))
 (n1 : callV E "point.Name" [vi d] [] = some ([rs N], [na], [])) (n2 : callV E "ref09.Name" [vi d] [] = some ([rs N], [na], [])) :
 callV E "law09.PointNames" [vi d, vs s] [] = some ([rB true], [na, na], []) := by
 refine callV_fn e.law09_PointNames fun nd hnd => ?_
 simp (maxSteps := 1000000) (disch := first | omega | (simp only [lnS] <;> omega) | assumption | fail) [law09_PointNames_B, wwS, -List.getD_eq_getElem?_getD, -List.drop_drop, p1, p2, s1, s2, r1, r2, n1, n2, hlive]
include e e2 in
theorem law_PointNames (B : Nat) (avs : List PV) (ha : PArgs B [.int .i64, .str] avs) : ∃ o ho, callV E "law09.PointNames" (avs.map .v) [] = some ([rB true], o, ho) := by
 simp only [PArgs] at ha
 obtain ⟨v0, _, rfl, a0, v1, _, rfl, a1, rfl⟩ := ha
 obtain ⟨d, rfl, hd⟩ := pv_int a0
 obtain ⟨s, rfl, hs, _⟩ := pv_strR a1
 obtain ⟨l, rfl, h256⟩ := sb_of s
 rw [sb_size] at hs
 refine ⟨[na, na], [], ?_⟩
 have p1 := point_Parse e e2 l h256 hs
 have p2 := ref09_Parse e e2 l h256 hs
 by_cases h : 0 ≤ d ∧ d < 64
 ·obtain ⟨n, rfl⟩ : ∃ n : Nat, d = n := ⟨d.toNat, by omega⟩
  have hn : n < 64 := by omega
  exact names_run e (live e e2) p1 p2 (point_Sort e e2 n hn) (ref09_Sort e n hn) (point_Prec e n hn) (ref09_Prec e n hn) (point_Name e e2 n hn) (ref09_Name e e2 n hn)
 ·exact names_run e (live e e2) p1 p2 (point_Sort0 e d h) (ref09_Sort0 e d h) (point_Prec0 e d h) (ref09_Prec0 e d h) (point_Name0 e d h) (ref09_Name0 e d h)
theorem sort_af {d : Nat} : ((sb (sortB d)).toList == (⟨#[97, 115, 115, 117, 114, 101, 100]⟩ : ByteArray).toList) = decide (¬ d % 8 = 0 ∧ 0 < prec d) := by
 unfold sortB
 split
 ·rename_i h; simp [h, ByteArray.toList_eq, sb]
 ·rename_i h
  split
  ·rename_i h2; simp [h, h2, ByteArray.toList_eq, sb]
  ·rename_i h2
   rw [decide_eq_false (fun hh => h2 hh.2)]
   split
   ·simp [ByteArray.toList_eq, sb]
   ·split
    ·simp [ByteArray.toList_eq, sb]
    ·split
     ·simp [ByteArray.toList_eq, sb]
     ·simp [ByteArray.toList_eq, sb]
theorem prec_pos {d : Nat} (h : 0 < prec d) : ¬ d % 8 = 0 ∧ d % 2 = 0 ∧ 8 ≤ d ∧ d < 40 ∧ prec d = d % 8 / 2 := by
 unfold prec at h ⊢
 split at h
 ·rename_i h1
  rw [if_pos h1]
  exact ⟨by omega, by omega, by omega, by omega, rfl⟩
 ·omega
theorem prec_cmp {d x : Nat} (hd : 0 < prec d) (hx : 0 < prec x) (h : d / 8 = x / 8) : (prec d < prec x) = (d < x) := by
 have := prec_pos hd
 have := prec_pos hx
 apply propext
 omega
theorem af_back {d : Nat} (h : 0 < prec d) : afS ((d / 8 : Nat) : Int) (prec d : Nat) = ((d : Int), 0) := by
 have := prec_pos h
 unfold afS
 rw [if_pos (by omega)]
 congr 1
 omega
include e in
theorem back_run {d x a b p q y : Nat} {f : Int} {s N M S : ByteArray} (ha : a < 256) (hb : b < 256) (hda : a % 64 = d) (hxb : b % 64 = x) (hd : d < 64) (hx : x < 64)
 (hlive : callV E "law09.live" [] [] = some ([rB true], [], []))
 (n1 : callV E "point.Name" [vi d] [] = some ([rs N], [na], [])) (n2 : callV E "point.Name" [vi x] [] = some ([rs M], [na], []))
 (p1 : callV E "point.Parse" [vs N] [] = some ([ri d, ri 0], [na], [])) (heq : (N.toList == M.toList) = decide ((d : Int) = (x : Int)))
 (p2 : callV E "point.Parse" [vs s] [] = some ([ri y, ri f], [na], [])) (hy : f = 0 → y < 64 ∧ s.size ≤ 4)
 (r1 : callV E "point.Prec" [vi d] [] = some ([ri p], [na], [])) (r2 : callV E "point.Prec" [vi x] [] = some ([ri q], [na], []))
 (hcmp : 0 < p → 0 < q → d / 8 = x / 8 → (p < q) = (d < x))
 (s1 : callV E "point.Sort" [vi d] [] = some ([rs S], [na], [])) (hs : (S.toList == (⟨#[97, 115, 115, 117, 114, 101, 100]⟩ : ByteArray).toList) = decide (0 < p))
 (f1 : 0 < p → callV E "point.Af" [vi (d / 8 : Nat), vi p] [] = some ([ri d, ri 0], [na, na], [])) :
 callV E "law09.PointBack" [vk .u8 a, vk .u8 b, vs s] [] = some ([rB true], [na, na, na], []) := by
 have e1 : (a : Int) % 64 = (d : Int) := by omega
 have e2 : (b : Int) % 64 = (x : Int) := by omega
 have hc : (p = 0) ∨ (0 < p ∧ q = 0) ∨ (0 < p ∧ 0 < q ∧ ¬ d / 8 = x / 8) ∨ (0 < p ∧ 0 < q ∧ d / 8 = x / 8) := by omega
 clear hda hxb
 by_cases hf : f = 0
 ·have h1 := (hy hf).1
  have h2 := (hy hf).2
  subst hf
  have c1 : ¬ 63 < (y : Int) := by omega
  have c2 : ¬ 4 < (s.size : Int) := by omega
  have c3 : ¬ 63 < y := by omega
  have c4 : ¬ 4 < s.size := by omega
  have c5 : ¬ (y : Int) < 0 := by omega
  clear hy
  rcases hc with hp | ⟨hp, hq⟩ | ⟨hp, hq, hq2⟩ | ⟨hp, hq, hq2⟩
  ·subst hp
   clear f1 hcmp
   rw [decide_eq_false (by omega)] at hs
   have r1 : callV E "point.Prec" [vi d] [] = some ([ri 0], [na], []) := r1
   refine callV_fn e.law09_PointBack fun nd hnd => ?_
   simp (maxSteps := 1000000) (disch := first | omega | (simp only [lnS] <;> omega) | assumption | fail) [law09_PointBack_B, wwS, -List.getD_eq_getElem?_getD, -List.drop_drop, e1, e2, n1, n2, p1, heq, p2, r1, s1, hs, hlive, c1, c2, c3, c4, c5]
   simpa using hs
  ·subst hq
   have f1 : callV E "point.Af" [vi ((d : Int) / 8), vi p] [] = some ([ri d, ri 0], [na, na], []) := f1 hp
   clear hcmp
   rw [decide_eq_true hp] at hs
   have r2 : callV E "point.Prec" [vi x] [] = some ([ri 0], [na], []) := r2
   have hp0 : ¬ p = 0 := by omega
   refine callV_fn e.law09_PointBack fun nd hnd => ?_
   simp (maxSteps := 1000000) (disch := first | omega | (simp only [lnS] <;> omega) | assumption | fail) [law09_PointBack_B, wwS, -List.getD_eq_getElem?_getD, -List.drop_drop, e1, e2, n1, n2, p1, heq, p2, r1, r2, s1, hs, hlive, hp, hp0, f1, c1, c2, c3, c4, c5]
   simpa using hs
  ·have f1 : callV E "point.Af" [vi ((d : Int) / 8), vi p] [] = some ([ri d, ri 0], [na, na], []) := f1 hp
   clear hcmp
   rw [decide_eq_true hp] at hs
   have hp0 : ¬ p = 0 := by omega
   have hz : ¬ (d : Int) / 8 = (x : Int) / 8 := by omega
   refine callV_fn e.law09_PointBack fun nd hnd => ?_
   simp (maxSteps := 1000000) (disch := first | omega | (simp only [lnS] <;> omega) | assumption | fail) [law09_PointBack_B, wwS, -List.getD_eq_getElem?_getD, -List.drop_drop, e1, e2, n1, n2, p1, heq, p2, r1, r2, s1, hs, hlive, hp, hp0, hq, hz, hq2, f1, c1, c2, c3, c4, c5]
   simpa using hs
  ·have f1 : callV E "point.Af" [vi ((d : Int) / 8), vi p] [] = some ([ri d, ri 0], [na, na], []) := f1 hp
   have hcmp := hcmp hp hq hq2
   rw [decide_eq_true hp] at hs
   have hp0 : ¬ p = 0 := by omega
   have hz : ((d : Int) / 8 = (x : Int) / 8) = True := eq_true (by omega)
   refine callV_fn e.law09_PointBack fun nd hnd => ?_
   simp (maxSteps := 1000000) (disch := first | omega | (simp only [lnS] <;> omega) | assumption | fail) [law09_PointBack_B, wwS, -List.getD_eq_getElem?_getD, -List.drop_drop, e1, e2, n1, n2, p1, heq, p2, r1, r2, s1, hs, hlive, hp, hp0, hq, hz, hcmp, f1, c1, c2, c3, c4, c5]
   simpa using hs
 ·skip
  clear hy
  rcases hc with hp | ⟨hp, hq⟩ | ⟨hp, hq, hq2⟩ | ⟨hp, hq, hq2⟩
  ·subst hp
   clear f1 hcmp
   rw [decide_eq_false (by omega)] at hs
   have r1 : callV E "point.Prec" [vi d] [] = some ([ri 0], [na], []) := r1
   refine callV_fn e.law09_PointBack fun nd hnd => ?_
   simp (maxSteps := 1000000) (disch := first | omega | (simp only [lnS] <;> omega) | assumption | fail) [law09_PointBack_B, wwS, -List.getD_eq_getElem?_getD, -List.drop_drop, e1, e2, n1, n2, p1, heq, p2, r1, s1, hs, hlive, hf]
   simpa using hs
  ·subst hq
   have f1 : callV E "point.Af" [vi ((d : Int) / 8), vi p] [] = some ([ri d, ri 0], [na, na], []) := f1 hp
   clear hcmp
   rw [decide_eq_true hp] at hs
   have r2 : callV E "point.Prec" [vi x] [] = some ([ri 0], [na], []) := r2
   have hp0 : ¬ p = 0 := by omega
   refine callV_fn e.law09_PointBack fun nd hnd => ?_
   simp (maxSteps := 1000000) (disch := first | omega | (simp only [lnS] <;> omega) | assumption | fail) [law09_PointBack_B, wwS, -List.getD_eq_getElem?_getD, -List.drop_drop, e1, e2, n1, n2, p1, heq, p2, r1, r2, s1, hs, hlive, hp, hp0, f1, hf]
   simpa using hs
  ·have f1 : callV E "point.Af" [vi ((d : Int) / 8), vi p] [] = some ([ri d, ri 0], [na, na], []) := f1 hp
   clear hcmp
   rw [decide_eq_true hp] at hs
   have hp0 : ¬ p = 0 := by omega
   have hz : ¬ (d : Int) / 8 = (x : Int) / 8 := by omega
   refine callV_fn e.law09_PointBack fun nd hnd => ?_
   simp (maxSteps := 1000000) (disch := first | omega | (simp only [lnS] <;> omega) | assumption | fail) [law09_PointBack_B, wwS, -List.getD_eq_getElem?_getD, -List.drop_drop, e1, e2, n1, n2, p1, heq, p2, r1, r2, s1, hs, hlive, hp, hp0, hq, hz, hq2, f1, hf]
   simpa using hs
  ·have f1 : callV E "point.Af" [vi ((d : Int) / 8), vi p] [] = some ([ri d, ri 0], [na, na], []) := f1 hp
   have hcmp := hcmp hp hq hq2
   rw [decide_eq_true hp] at hs
   have hp0 : ¬ p = 0 := by omega
   have hz : ((d : Int) / 8 = (x : Int) / 8) = True := eq_true (by omega)
   refine callV_fn e.law09_PointBack fun nd hnd => ?_
   simp (maxSteps := 1000000) (disch := first | omega | (simp only [lnS] <;> omega) | assumption | fail) [law09_PointBack_B, wwS, -List.getD_eq_getElem?_getD, -List.drop_drop, e1, e2, n1, n2, p1, heq, p2, r1, r2, s1, hs, hlive, hp, hp0, hq, hz, hcmp, f1, hf]
   simpa using hs
include e e2 in
theorem law_PointBack (B : Nat) (avs : List PV) (ha : PArgs B [.int .u8, .int .u8, .str] avs) : ∃ o ho, callV E "law09.PointBack" (avs.map .v) [] = some ([rB true], o, ho) := by
 simp only [PArgs] at ha
 obtain ⟨v0, _, rfl, a0, v1, _, rfl, a1, v2, _, rfl, a2, rfl⟩ := ha
 obtain ⟨a, rfl, ha⟩ := pv_u8 a0
 obtain ⟨b, rfl, hb⟩ := pv_u8 a1
 obtain ⟨s, rfl, hs, _⟩ := pv_strR a2
 obtain ⟨l, rfl, h256⟩ := sb_of s
 rw [sb_size] at hs
 refine ⟨[na, na, na], [], ?_⟩
 have hd : a % 64 < 64 := Nat.mod_lt _ (by decide)
 have hx : b % 64 < 64 := Nat.mod_lt _ (by decide)
 generalize hde : a % 64 = d at *
 generalize hxe : b % 64 = x at *
 have p1 := point_Parse e e2 (nameB d) (name256 hd) (Nat.le_trans (name_len d hd) (by decide))
 rw [parse_name hd] at p1
 refine back_run e ha hb hde hxe hd hx (live e e2) (point_Name e e2 d hd) (point_Name e e2 x hx) p1 ?_ (point_Parse e e2 l h256 hs) ?_ (point_Prec e d hd) (point_Prec e x hx) ?_ (point_Sort e e2 d hd) ?_ ?_
 ·rw [name_eq hd (name256 hx)]
  exact decide_eq_decide.2 ⟨fun h => by rw [name_inj hd hx h], fun h => by rw [show d = x by omega]⟩
 ·intro h
  have := parse_ok h
  rw [sb_size]
  exact this
 ·exact fun h1 h2 h3 => prec_cmp h1 h2 h3
 ·rw [sort_af]
  exact decide_eq_decide.2 ⟨fun h => h.2, fun h => ⟨(prec_pos h).1, h⟩⟩
 ·intro h
  have := point_Af e (d / 8 : Nat) (prec d : Nat) (by unfold I64; omega) (by unfold I64; have := prec_lt (d := d); omega)
  rw [af_back h] at this
  exact this
end
end Go.Wb.P09

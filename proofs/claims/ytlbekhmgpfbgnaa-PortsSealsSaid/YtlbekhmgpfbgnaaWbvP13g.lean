/- Chapter 13: the laws of sums. -/
import Derived.Test.YtlbekhmgpfbgnaaWbvP13f
set_option maxRecDepth 100000
set_option linter.all false
namespace Go.Wb.P13
open Go Go.Wb Go.Wb.Code Go.Wb.P01 Go.Wb.P03
theorem totS_eq {V P : Int} {s d b : List Nat} (hs : s.length = 16) (hd : d.length = 16) (s256 : ∀ x ∈ s, x < 256) (d256 : ∀ x ∈ d, x < 256) (h256 : ∀ x ∈ b, x < 256) (hP : 0 ≤ P) (hn : b.length < 65536) :
 totS V P s d b = foldS ((ws b : Int) + ws (adr V s) + ws (adr V d) + b.length + P) := by
 unfold totS
 rw [sumS_eq' h256 (by omega), sumS_eq' (adr_256 s256) (by rw [adr_len hs]; split <;> omega), sumS_eq' (adr_256 d256) (by rw [adr_len hd]; split <;> omega)]
 generalize ws (adr V s) = A
 generalize ws (adr V d) = B
 generalize ws b = C
 generalize b.length = n at *
 have s1 := fold_add (x := (C : Int)) (y := (A : Int)) (by omega) (by omega)
 have s2 := fold_add (x := (C : Int) + A) (y := (B : Int)) (by omega) (by omega)
 have s3 := fold_addr (x := (C : Int) + A + B) (y := (n : Int)) (by omega) (by omega)
 have s4 := fold_addr (x := (C : Int) + A + B + n) (y := P) (by omega) hP
 rw [s1, s2, s3, s4]
theorem set2_get {b : List Nat} {a n i : Nat} (h1 : i ≠ a) (h2 : i ≠ a + 1) : (set2 b a n).getD i 0 = b.getD i 0 := by
 unfold set2
 rw [getD_set_ne' (by omega), getD_set_ne' (by omega)]
theorem set2_set2 {b : List Nat} {a m n : Nat} : set2 (set2 b a m) a n = set2 b a n := by
 unfold set2
 rw [List.set_comm _ _ (show a + 1 ≠ a by omega), List.set_set, List.set_set]
theorem ws_set2 {b : List Nat} {a n : Nat} (he : a % 2 = 0) (ha : a + 2 ≤ b.length) (hn : n < 65536) : ws (set2 (set2 b a 0) a n) = ws (set2 b a 0) + n := by
 have h := ws_setw (l := set2 b a 0) (i := a / 2) (h := n / 256) (lo := n % 256) (by rw [set2_len]; omega)
 rw [show 2 * (a / 2) = a by omega] at h
 have g1 : (set2 b a 0).getD a 0 = 0 := by
  unfold set2
  rw [getD_set_ne' (by omega), getD_set_eq' (by omega)]
 have g2 : (set2 b a 0).getD (a + 1) 0 = 0 := by
  unfold set2
  rw [getD_set_eq' (by simp; omega)]
 rw [g1, g2] at h
 unfold set2 at *
 omega
structure SealOk (V P : Int) (s d b x : List Nat) : Prop where
 len : x.length = b.length
 byte : ∀ y ∈ x, y < 256
 wr : wrongS V P x.length = 0
 sum : totS V P s d x = 65535
 sum' : totS V P d s x = 65535
 again : sealS V P s d x = (x, 0)
 other : ∀ i, i ≠ atS P → i ≠ atS P + 1 → x.getD i 0 = b.getD i 0
theorem seal_ok {V P : Int} {s d b : List Nat} (hs : s.length = 16) (hd : d.length = 16) (s256 : ∀ x ∈ s, x < 256) (d256 : ∀ x ∈ d, x < 256) (h256 : ∀ x ∈ b, x < 256) (hw : wrongS V P b.length = 0) :
 SealOk V P s d b (sealS V P s d b).1 := by
 have ok := wrong_ok hw
 unfold sealS
 rw [if_pos hw]
 have hck := ckS_lt (V := V) (P := P) (s := s) (d := d) (b := b)
 have x256 : ∀ y ∈ set2 (set2 b (atS P) 0) (atS P) (ckS V P s d b), y < 256 := set2_256 (set2_256 h256 (by decide)) hck
 have hl : (set2 (set2 b (atS P) 0) (atS P) (ckS V P s d b)).length = b.length := by rw [set2_len, set2_len]
 have hat : atS P % 2 = 0 ∧ atS P + 2 ≤ b.length := by
  unfold atS
  rcases ok.2.1 with h | h <;> subst h
  ·have := ok.2.2.2.2 rfl
   simp; omega
  ·simp; omega
 have hws := ws_set2 (b := b) hat.1 hat.2 hck
 have ht0 := totS_eq (V := V) (P := P) (b := set2 b (atS P) 0) hs hd s256 d256 (set2_256 h256 (by decide)) (by omega) (by rw [set2_len]; omega)
 have ht1 := totS_eq (V := V) (P := P) hs hd s256 d256 x256 (by omega) (by omega)
 have ht2 := totS_eq (V := V) (P := P) hd hs d256 s256 x256 (by omega) (by omega)
 have hc : ckS V P s d b = (let n := 65535 - (totS V P s d (set2 b (atS P) 0)).toNat; if n = 0 ∧ P = 17 then 65535 else n) := rfl
 have hT := totS_range (V := V) (P := P) (s := s) (d := d) (b := set2 b (atS P) 0) (by omega)
 have hsum : foldS ((ws (set2 b (atS P) 0) : Int) + ckS V P s d b + ws (adr V s) + ws (adr V d) + b.length + P) = 65535 := by
  rw [set2_len] at ht0
  generalize ckS V P s d b = n at *
  generalize totS V P s d (set2 b (atS P) 0) = T at *
  generalize hW : (ws (set2 b (atS P) 0) : Int) + ws (adr V s) + ws (adr V d) + b.length + P = W at *
  have hW0 : 0 < W := by omega
  have e1 : (ws (set2 b (atS P) 0) : Int) + n + ws (adr V s) + ws (adr V d) + b.length + P = W + n := by omega
  rw [e1]
  have m0 := foldS_mod (n := W) (by omega)
  have z0 := foldS_zero (n := W) (by omega)
  have m1 := foldS_mod (n := W + n) (by omega)
  have z1 := foldS_zero (n := W + n) (by omega)
  have r1 := foldS_range (n := W + n) (by omega)
  rw [← ht0] at m0 z0
  clear ht0 ht1 ht2 hws x256 hl hW e1 h256 s256 d256
  generalize foldS (W + n) = F at *
  have hn : (n : Int) = 65535 - T ∨ ((n : Int) = 65535 ∧ T = 65535) := by
   rw [hc]
   show (((if 65535 - T.toNat = 0 ∧ P = 17 then 65535 else 65535 - T.toNat : Nat)) : Int) = _ ∨ (((if 65535 - T.toNat = 0 ∧ P = 17 then 65535 else 65535 - T.toNat : Nat)) : Int) = 65535 ∧ _
   split
   ·right; omega
   ·left; omega
  clear hc
  rcases hn with hn | ⟨hn, hT2⟩
  ·omega
  ·omega
 refine ⟨hl, x256, by rw [hl]; exact hw, ?_, ?_, ?_, fun i h1 h2 => ?_⟩
 ·rw [ht1, hws, hl, ← hsum]
  congr 1 <;> omega
 ·rw [ht2, hws, hl, ← hsum]
  congr 1 <;> omega
 ·show sealS V P s d (set2 (set2 b (atS P) 0) (atS P) (ckS V P s d b)) = (set2 (set2 b (atS P) 0) (atS P) (ckS V P s d b), 0)
  unfold sealS
  rw [hl, if_pos hw]
  have e0 : set2 (set2 (set2 b (atS P) 0) (atS P) (ckS V P s d b)) (atS P) 0 = set2 b (atS P) 0 := by rw [set2_set2, set2_set2]
  have e1 : ckS V P s d (set2 (set2 b (atS P) 0) (atS P) (ckS V P s d b)) = ckS V P s d b := by
   unfold ckS
   simp only
   have : set2 (set2 (set2 b (atS P) 0) (atS P) (ckS V P s d b)) (atS P) 0 = set2 b (atS P) 0 := e0
   unfold ckS at this
   simp only at this
   rw [this]
  rw [e0, e1]
 ·rw [set2_get h1 h2, set2_get h1 h2]
section
variable {E : EnvW} (e : WbvC13bEnv E) (e0 : WbvC13Env E) (e1 : WbvC01Env E) (e3 : WbvC03Env E) (ef : WbvC03fEnv E)
theorem pv_key {B : Nat} {p : PV} (hv : PVal B (.st [.int .i64, .arr 16 (.int .u8), .arr 16 (.int .u8), .int .i64, .int .i64, .bool, .int .i64, .int .i64]) p) :
 ∃ KP V P s d, p = .agg KP ∧ KeyOk KP V P s d ∧ ∃ KQ, KeyOk KQ V P d s ∧ KQ = KP.take 1 ++ (KP.drop 17).take 16 ++ (KP.drop 1).take 16 ++ KP.drop 33 := by
 simp only [PVal, Ty.agg, if_true] at hv
 obtain ⟨cs, rfl, hv⟩ := hv
 simp only [POk, POks] at hv
 obtain ⟨c0, r0, rfl, ⟨V, rfl, hV⟩, c1, r1, rfl, ⟨row1, l1, rfl, w1⟩, c2, r2, rfl, ⟨row2, l2, rfl, w2⟩, c3, r3, rfl, ⟨P, rfl, hP⟩, c4, r4, rfl, ⟨x4, rfl, _⟩, c5, r5, rfl, ⟨x5, rfl⟩, c6, r6, rfl, ⟨x6, rfl, _⟩, c7, r7, rfl, ⟨x7, rfl, _⟩, rfl⟩ := hv
 obtain ⟨m1, q1, q2, q3⟩ := prows_int (B := B) (k := .u8) (rows := row1) (by simpa only [POk] using w1)
 obtain ⟨m2, q4, q5, q6⟩ := prows_int (B := B) (k := .u8) (rows := row2) (by simpa only [POk] using w2)
 obtain ⟨s, rfl, s256⟩ := nats_of (l := m1) (m := 256) (fun x hx => wf_u8 (q3 x hx))
 obtain ⟨d, rfl, d256⟩ := nats_of (l := m2) (m := 256) (fun x hx => wf_u8 (q6 x hx))
 have e1 : row1.flatten = bp s := by rw [q2]; simp [mp, List.map_map, Function.comp_def]
 have e2 : row2.flatten = bp d := by rw [q5]; simp [mp, List.map_map, Function.comp_def]
 have ls : s.length = 16 := by simp at q1; omega
 have ld : d.length = 16 := by simp at q4; omega
 rw [e1, e2]
 have key : ∀ (s d : List Nat), s.length = 16 → d.length = 16 → (∀ x ∈ s, x < 256) → (∀ x ∈ d, x < 256) → KeyOk ([PV.sc (.int .i64 V)] ++ (bp s ++ (bp d ++ ([PV.sc (.int .i64 P)] ++ ([PV.sc (.int .i64 x4)] ++ ([PV.sc (.bool x5)] ++ ([PV.sc (.int .i64 x6)] ++ ([PV.sc (.int .i64 x7)] ++ [])))))))) V P s d := by
  intro s d ls ld s256 d256
  have b1 : (bp s).length = 16 := by simp [mp, ls]
  have b2 : (bp d).length = 16 := by simp [mp, ld]
  refine ⟨by simp [b1, b2], rfl, ?_, ?_, ?_, wf_i64 hV, wf_i64 hP, ls, ld, s256, d256⟩
  ·rw [List.getElem?_append_right (by simp), List.getElem?_append_right (by simp [b1]), List.getElem?_append_right (by simp [b1, b2])]
   simp [b1, b2]
  ·simp only [List.singleton_append, List.drop_succ_cons, List.drop_zero]
   rw [List.take_append_of_le_length (by omega), List.take_of_length_le (by omega)]
  ·simp only [List.singleton_append, List.drop_succ_cons]
   rw [List.drop_append_of_le_length (by omega), List.drop_of_length_le (by omega), List.nil_append, List.take_append_of_le_length (by omega), List.take_of_length_le (by omega)]
 have b1 : (bp s).length = 16 := by simp [mp, ls]
 have b2 : (bp d).length = 16 := by simp [mp, ld]
 have k1 := key s d ls ld s256 d256
 refine ⟨_, V, P, s, d, rfl, k1, _, key d s ld ls d256 s256, ?_⟩
 rw [k1.ks, k1.kd]
 simp only [List.singleton_append, List.take_succ_cons, List.take_zero, List.drop_succ_cons]
 rw [List.drop_append, List.drop_of_length_le (by omega), List.nil_append, List.drop_append, List.drop_of_length_le (by omega), b1, b2]
 simp [mp, List.map_append]
include e in
theorem sums_run {KP : List PV} {K : List CV} {b X : List Nat} {T f g : Int} (hK : List.map CV.v KP = K) (b1 : K.length = 38) (b4 : K.all isV = true) (b5 : unv K = some KP) (b6 : List.take 38 K = K)
 (q1 : callV E "ports.Sum" [.v (.agg KP), vb b] [] = some ([rk .u16 T, ri f], [na, na], [])) (q2 : callV E "ref13.Sum" [.v (.agg KP), vb b] [] = some ([rk .u16 T, ri f], [na, na], []))
 (q3 : callV E "ports.Seal" [.v (.agg KP), vb b] [] = some ([ro X, ri g], [na, na], [])) (q4 : callV E "ref13.Seal" [.v (.agg KP), vb b] [] = some ([ro X, ri g], [na, na], []))
 (q5 : callV E "ref01.SameBytes" [vb X, vb X] [] = some ([rB true], [na, na], [])) (hs : callV E "law13.sure" [] [] = some ([rB true], [], [])) :
 callV E "law13.PortsSums" [.v (.agg KP), vb b] [] = some ([rB true], [na, na], []) := by
 refine callV_fn e.law13_PortsSums fun nd hnd => ?_
 simp (maxSteps := 1000000) (disch := first | omega | (simp only [lnS] <;> omega) | assumption | fail) [law13_PortsSums_B, wwS, -List.getD_eq_getElem?_getD, -List.drop_drop, hK, b1, b4, b5, b6, q1, q2, q3, q4, q5, hs]
include e in
theorem sure : callV E "law13.sure" [] [] = some ([rB true], [], []) := by
 rw [callV_prim e.law13_sure]; rfl
theorem seal_len {V P : Int} {s d b : List Nat} : (sealS V P s d b).1.length ≤ b.length := by
 unfold sealS
 split
 ·simp [set2_len]
 ·simp
include e e0 e1 e3 ef in
theorem law_PortsSums (B : Nat) (avs : List PV) (ha : PArgs B [.st [.int .i64, .arr 16 (.int .u8), .arr 16 (.int .u8), .int .i64, .int .i64, .bool, .int .i64, .int .i64], .sl 1 1 (.int .u8)] avs) :
 ∃ o ho, callV E "law13.PortsSums" (avs.map .v) [] = some ([rB true], o, ho) := by
 simp only [PArgs] at ha
 obtain ⟨v0, _, rfl, a0, v1, _, rfl, a1, rfl⟩ := ha
 obtain ⟨KP, V, P, s, d, rfl, k, _⟩ := pv_key a0
 obtain ⟨b, rfl, h256, hlen, _⟩ := pv_bytesR a1
 obtain ⟨K, hK⟩ : ∃ K, List.map CV.v KP = K := ⟨_, rfl⟩
 have B := k.box hK
 have q5 := ref01_SameBytes e1 (sealS V P s d b).1 (sealS V P s d b).1 (Nat.le_trans seal_len hlen)
 rw [decide_eq_true rfl] at q5
 exact ⟨[na, na], [], sums_run e hK B.len B.all B.unv B.tk (ports_Sum e e0 e3 ef k b hlen h256) (ref13_Sum e e0 e1 e3 ef k b hlen h256) (ports_Seal e e0 e1 e3 ef k b hlen h256) (ref13_Seal e e0 e1 e3 ef k b hlen h256) q5 (sure e)⟩
end
end Go.Wb.P13

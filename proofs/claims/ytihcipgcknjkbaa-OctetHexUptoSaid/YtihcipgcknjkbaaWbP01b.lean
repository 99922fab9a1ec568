/- Chapter 1: bytes: what its functions come to. -/
import Derived.Test.YtihcipgcknjkbaaWbP01
import Derived.Test.YtihcipgcknjkbaaWbSl
set_option maxRecDepth 100000
namespace Go.Wb.P01
open Go Go.Wb Go.Wb.Code

/-- What is wrong with a place and a width. -/
def spansE (len at_ w : Int) : Int := if w < 1 ∨ 8 < w ∨ at_ < 0 then 1 else if len < at_ ∨ len - at_ < w then 2 else 0

section
variable {E : Env} (e : WbC01Env E)
include e

theorem octet_spans {h : Heap} {b : List Nat} {v : Value} (hv : SlB h b v) (hb : b.length ≤ reach) (a w : Int) (ha : I64 a) (hw : I64 w) :
    callA E "octet.spans" [v, .int .i64 a, .int .i64 w] h = some (.int .i64 (spansE b.length a w), h) := by
  rw [callA_code e.octet_spans]
  unfold I64 at *
  unfold reach reachBytes at hb
  unfold spansE
  have hl := hv.len
  by_cases h1 : w < 1
  · simp [octet_spans_B, h1]
  · by_cases h2 : 8 < w
    · simp [octet_spans_B, h1, h2]
    · by_cases h3 : a < 0
      · simp [octet_spans_B, h1, h2, h3]
      · by_cases h4 : (b.length : Int) < a
        · simp [octet_spans_B, h1, h2, h3, h4, hl]
        · by_cases h5 : (b.length : Int) - a < w <;> simp (disch := omega) [octet_spans_B, h1, h2, h3, h4, h5, hl, wrap_i64]

theorem ref01_place {h : Heap} {b : List Nat} {v : Value} (hv : SlB h b v) (hb : b.length ≤ reach) (a w : Int) (ha : I64 a) (hw : I64 w) :
    callA E "ref01.place" [v, .int .i64 a, .int .i64 w] h = some (.int .i64 (spansE b.length a w), h) := by
  rw [callA_code e.ref01_place]
  unfold I64 at *
  unfold reach reachBytes at hb
  unfold spansE
  have hl := hv.len
  by_cases h1 : w < 1
  · simp [ref01_place_B, h1]
  · by_cases h2 : 8 < w
    · simp [ref01_place_B, h1, h2]
    · by_cases h3 : a < 0
      · simp [ref01_place_B, h1, h2, h3]
      · by_cases h4 : (b.length : Int) - a < w
        · simp (disch := omega) [ref01_place_B, h1, h2, h3, h4, hl, wrap_i64]
        · have h5 : ¬ (b.length : Int) < a := by omega
          simp (disch := omega) [ref01_place_B, h1, h2, h3, h4, h5, hl, wrap_i64]

omit e in
theorem or_byte (n c : Nat) (hn : n < 72057594037927936) (hc : c < 256) : bits .or .u64 ((n * 2 ^ 8 % 18446744073709551616 : Nat) : Int) (c : Int) = ((n * 256 + c : Nat) : Int) := by
  rw [Nat.mod_eq_of_lt (by omega)]
  have := bits_join .u64 64 (by decide) (fun n h0 h1 => wrap_u64 h0 (by simpa using h1)) 8 ((n * 2 ^ 8 : Nat) : Int) c (by omega) (by omega) (by omega) (by omega) (by omega) (by omega)
  rw [this]
  omega

omit e in
theorem octet_Get_loop (h : Heap) (l : List Nat) (v : Value) (hv : SlB h l v) (hl : l.length ≤ 8) (hb : ∀ x ∈ l, x < 256) : ∀ (m k : Nat) (t : T) (r), k + m = l.length → runA E (.loop octet_Get_L0) t h = r →
    t 24 = v → t 25 = .int .i64 (l.length : Nat) → t 26 = .int .i64 k → t 9 = .int .u64 (num (l.take k) : Nat) → ∃ t', r = some (.exit 0, t', h) ∧ t' 9 = .int .u64 (num l : Nat)
  | 0, k, t, r, hk, hr, h24, h25, h26, h9 => by
    have hn : ¬ ((k : Int) < l.length) := by omega
    rw [runA_loop] at hr
    simp [octet_Get_L0, h25, h26, hn] at hr
    refine ⟨_, hr.symm, ?_⟩
    rw [List.take_of_length_le (by omega)] at h9
    simp [h9]
  | m + 1, k, t, r, hk, hr, h24, h25, h26, h9 => by
    have hn : ((k : Int) < l.length) := by omega
    have hk' : k < l.length := by omega
    have hi := hv.idx (k := .i64) (j := k) (by omega) hn
    have hrd := hv.read hk'
    have hc : l.getD k 0 < 256 := hb _ (getD_mem hk')
    have h1 := num_lt (l.take k) (fun x hx => hb x (List.mem_of_mem_take hx))
    have h2 : 256 ^ (l.take k).length ≤ 256 ^ 7 := Nat.pow_le_pow_right (by decide) (by rw [List.length_take]; omega)
    have hor := or_byte (num (l.take k)) (l.getD k 0) (by omega) hc
    have hs := shl_u64 (a := num (l.take k)) (k := 8) (by decide)
    have hstep : num (l.take (k + 1)) = num (l.take k) * 256 + l.getD k 0 := by rw [take_succ_getD hk', num_snoc]
    rw [← hstep] at hor
    have ih := octet_Get_loop h l v hv hl hb m (k + 1)
    generalize num (l.take (k + 1)) = q at *
    generalize (num (l.take k) * 2 ^ 8 % 18446744073709551616) = p at *
    generalize num (l.take k) = o at *
    generalize l.getD k 0 = c at *
    rw [runA_loop] at hr
    simp at hi hs
    simp (disch := omega) [octet_Get_L0, h24, h25, h26, h9, hn, hi, hrd, wrap_i64, wrap_u64, hs, hor] at hr
    exact ih _ _ (by omega) hr (by simp [h24]) (by simp [h25]) (by simp) (by simp)

/-- What 'Get' tells. -/
def getS (b : List Nat) (a w : Int) : Nat × Int := if spansE b.length a w = 0 then (num ((b.drop a.toNat).take w.toNat), 0) else (0, spansE b.length a w)

theorem octet_Get {h : Heap} {b : List Nat} {v : Value} (hv : SlB h b v) (hb : b.length ≤ reach) (h256 : ∀ x ∈ b, x < 256) (a w : Int) (ha : I64 a) (hw : I64 w) :
    callA E "octet.Get" [v, .int .i64 a, .int .i64 w] h = some (.tuple #[.int .u64 (getS b a w).1, .int .i64 (getS b a w).2], h) := by
  have hsp := octet_spans e hv hb a w ha hw
  rw [callA_code e.octet_Get]
  unfold getS
  by_cases hz : spansE b.length a w = 0
  · rw [if_pos hz]
    rw [hz] at hsp
    unfold spansE at hz
    have hz' : ¬ (w < 1 ∨ 8 < w ∨ a < 0) ∧ ¬ ((b.length : Int) < a ∨ (b.length : Int) - a < w) := by
      split at hz
      · omega
      · split at hz
        · omega
        · exact ⟨by assumption, by assumption⟩
    unfold reach reachBytes at hb
    have hsub := hv.sub (lo := a.toNat) (hi := (a + w).toNat) (by omega) (by omega)
    have hasub := Sl.aSub2 hv (k := .i64) (k' := .i64) (lo := a) (hi := a + w) (by omega) (by omega) (by omega)
    have hwn : (a + w).toNat - a.toNat = w.toNat := by omega
    rw [hwn] at hsub
    have hlen := hsub.len
    have hl2 : ((b.drop a.toNat).take w.toNat).length = w.toNat := by rw [List.length_take, List.length_drop]; omega
    have hloop := octet_Get_loop (E := E) h _ _ hsub (by omega) (fun x hx => h256 x (List.mem_of_mem_drop (List.mem_of_mem_take hx))) w.toNat 0
    rw [hl2] at hloop hlen
    generalize (b.drop a.toNat).take w.toNat = l at *
    generalize subAt v a.toNat (a + w).toNat = u at *
    simp (disch := omega) [octet_Get_B, hsp, wrap_i64, hasub, hlen]
    generalize hr : runA E (.loop octet_Get_L0) _ h = r
    obtain ⟨t', rfl, h9⟩ := hloop _ _ (by omega) hr (by simp) (by simp) (by simp) (by simp [num])
    simp [h9]
  · rw [if_neg hz]
    simp [octet_Get_B, hsp, hz]

omit e in
theorem ref01_Get_loop (h : Heap) (b : List Nat) (v : Value) (hv : SlB h b v) (hlb : b.length ≤ reach) (h256 : ∀ x ∈ b, x < 256) (a w : Nat) (hw : w ≤ 8) (hl : a + w ≤ b.length) : ∀ (m k : Nat) (t : T) (r), k + m = w → runA E (.loop ref01_Get_L0) t h = r →
    t 0 = v → t 1 = .int .i64 a → t 2 = .int .i64 w → t 10 = .int .i64 k → t 9 = .int .u64 (num ((b.drop a).take k) : Nat) → ∃ t', r = some (.exit 0, t', h) ∧ t' 9 = .int .u64 (num ((b.drop a).take w) : Nat)
  | 0, k, t, r, hk, hr, h0, h1, h2, h10, h9 => by
    have hn : ¬ ((k : Int) < w) := by omega
    rw [runA_loop] at hr
    simp [ref01_Get_L0, h2, h10, hn] at hr
    refine ⟨_, hr.symm, ?_⟩
    have : k = w := by omega
    subst this
    simp [h9]
  | m + 1, k, t, r, hk, hr, h0, h1, h2, h10, h9 => by
    unfold reach reachBytes at hlb
    have hn : ((k : Int) < w) := by omega
    have hk' : a + k < b.length := by omega
    have hi := hv.idx (k := .i64) (j := (a : Int) + k) (by omega) (by omega)
    have hrd := hv.read hk'
    have hc : b.getD (a + k) 0 < 256 := h256 _ (getD_mem hk')
    have h3 := num_lt ((b.drop a).take k) (fun x hx => h256 x (List.mem_of_mem_drop (List.mem_of_mem_take hx)))
    have h4 : 256 ^ ((b.drop a).take k).length ≤ 256 ^ 7 := Nat.pow_le_pow_right (by decide) (by rw [List.length_take]; omega)
    have hstep : num ((b.drop a).take (k + 1)) = num ((b.drop a).take k) * 256 + b.getD (a + k) 0 := by
      rw [take_succ_getD (by rw [List.length_drop]; omega), num_snoc]
      congr 1
      simp [List.getD, List.getElem?_drop]
    have ih := ref01_Get_loop h b v hv hlb h256 a w hw hl m (k + 1)
    have e1 : ((a : Int) + k).toNat = a + k := by omega
    rw [e1] at hi
    generalize num ((b.drop a).take (k + 1)) = q at *
    generalize num ((b.drop a).take k) = o at *
    generalize b.getD (a + k) 0 = c at *
    rw [runA_loop] at hr
    simp (disch := omega) [ref01_Get_L0, h0, h1, h2, h10, h9, hn, hi, hrd, wrap_i64, wrap_u64] at hr
    exact ih _ _ (by omega) hr (by simp [h0]) (by simp [h1]) (by simp [h2]) (by simp) (by simp; omega)

theorem ref01_Get {h : Heap} {b : List Nat} {v : Value} (hv : SlB h b v) (hb : b.length ≤ reach) (h256 : ∀ x ∈ b, x < 256) (a w : Int) (ha : I64 a) (hw : I64 w) :
    callA E "ref01.Get" [v, .int .i64 a, .int .i64 w] h = some (.tuple #[.int .u64 (getS b a w).1, .int .i64 (getS b a w).2], h) := by
  have hsp := ref01_place e hv hb a w ha hw
  rw [callA_code e.ref01_Get]
  unfold getS
  by_cases hz : spansE b.length a w = 0
  · rw [if_pos hz]
    rw [hz] at hsp
    unfold spansE at hz
    have hz' : ¬ (w < 1 ∨ 8 < w ∨ a < 0) ∧ ¬ ((b.length : Int) < a ∨ (b.length : Int) - a < w) := by
      split at hz
      · omega
      · split at hz
        · omega
        · exact ⟨by assumption, by assumption⟩
    obtain ⟨a, rfl⟩ := Int.eq_ofNat_of_zero_le (by omega : 0 ≤ a)
    obtain ⟨w, rfl⟩ := Int.eq_ofNat_of_zero_le (by omega : 0 ≤ w)
    have hloop := ref01_Get_loop (E := E) h b v hv hb h256 a w (by omega) (by omega) w 0
    simp only [Int.toNat_natCast]
    generalize (b.drop a).take w = l at *
    simp [ref01_Get_B, hsp]
    generalize hr : runA E (.loop ref01_Get_L0) _ h = r
    obtain ⟨t', rfl, h9⟩ := hloop _ _ (by omega) hr (by simp) (by simp) (by simp) (by simp) (by simp [num])
    simp [h9]
  · rw [if_neg hz]
    simp [ref01_Get_B, hsp, hz]

omit e in
theorem ref01_Join_inner (h0 : Heap) (bs : List (List Nat)) (v : Value) (hv : SlBs h0 bs v) (i : Nat) (hi : i < bs.length) (hlb : (bs.getD i []).length ≤ 140737488355328) : ∀ (m k : Nat) (acc : List Nat) (o : Value) (h : Heap) (t : T) (r), k + m = (bs.getD i []).length → Ext h0 h → OwnB h0 h acc o → runA E (.loop ref01_Join_L0) t h = r →
    t 0 = v → t 3 = o → t 4 = .int .i64 i → t 5 = .int .i64 k → acc.length + m ≤ 140737488355328 → i < 140737488355328 → ∃ t' h' o', r = some (.exit 2, t', h') ∧ Ext h0 h' ∧ OwnB h0 h' (acc ++ (bs.getD i []).drop k) o' ∧ t' 0 = v ∧ t' 3 = o' ∧ t' 4 = .int .i64 i
  | 0, k, acc, o, h, t, r, hk, hx, ho, hr, t0, t3, t4, t5, hs, hi2 => by
    have hv' := hv.mono hx
    obtain ⟨u, hu, hub⟩ := hv'.read hi
    have hidx := hv'.idx (k := .i64) (j := i) (by omega) (by omega)
    have hlu := hub.len
    have hn : ¬ ((k : Int) < (bs.getD i []).length) := by omega
    generalize hB : bs.getD i [] = B at *
    simp at hidx
    rw [runA_loop] at hr
    simp [ref01_Join_L0, t0, t4, t5, hidx, hu, hlu, hn] at hr
    refine ⟨_, _, o, hr.symm, hx, ?_, by simp [t0], by simp [t3], by simp [t4]⟩
    rw [List.drop_eq_nil_of_le (by omega), List.append_nil]
    exact ho
  | m + 1, k, acc, o, h, t, r, hk, hx, ho, hr, t0, t3, t4, t5, hs, hi2 => by
    have hv' := hv.mono hx
    obtain ⟨u, hu, hub⟩ := hv'.read hi
    have hidx := hv'.idx (k := .i64) (j := i) (by omega) (by omega)
    have hlu := hub.len
    have hn : ((k : Int) < (bs.getD i []).length) := by omega
    have hk' : k < (bs.getD i []).length := by omega
    have hidx2 := hub.idx (k := .i64) (j := k) (by omega) hn
    have hrd := hub.read hk'
    have hdrop := drop_getD hk'
    have ih := ref01_Join_inner h0 bs v hv i hi hlb m (k + 1)
    generalize bs.getD i [] = B at *
    generalize B.getD k 0 = c at *
    simp at hidx hidx2
    obtain ⟨o', h', q1, q2, q3, q4⟩ := ho.append (hx.trans (.new h [.int .u8 (c : Nat)])) (.new h _) (slB_one h c) (by simp; omega)
    rw [runA_loop] at hr
    simp (disch := omega) [ref01_Join_L0, t0, t3, t4, t5, hidx, hu, hlu, hn, hidx2, hrd, repCells, q1, wrap_i64] at hr
    obtain ⟨t2, h2, o2, r1, r2, r3, r4⟩ := ih (acc ++ [c]) o' h' _ _ (by omega) q2 q3 hr (by simp [t0]) (by simp) (by simp [t4]) (by simp) (by simp; omega) hi2
    refine ⟨t2, h2, o2, r1, r2, ?_, r4⟩
    rw [hdrop]
    simpa using r3

omit e in
theorem ref01_Join_outer (h0 : Heap) (bs : List (List Nat)) (v : Value) (hv : SlBs h0 bs v) (hlb : bs.flatten.length ≤ 140737488355328) (hbl : bs.length < 140737488355328) : ∀ (m i : Nat) (o : Value) (h : Heap) (t : T) (r), i + m = bs.length → Ext h0 h → OwnB h0 h (bs.take i).flatten o → runA E (.loop ref01_Join_L1) t h = r →
    t 0 = v → t 3 = o → t 4 = .int .i64 i → ∃ t' h' o', r = some (.exit 0, t', h') ∧ Ext h0 h' ∧ OwnB h0 h' bs.flatten o' ∧ t' 3 = o'
  | 0, i, o, h, t, r, hk, hx, ho, hr, t0, t3, t4 => by
    have hl := (hv.mono hx).len
    have hn : ¬ ((i : Int) < bs.length) := by omega
    rw [runA_loop] at hr
    simp [ref01_Join_L1, t0, t4, hl, hn] at hr
    refine ⟨_, _, o, hr.symm, hx, ?_, by simp [t3]⟩
    rw [List.take_of_length_le (by omega)] at ho
    exact ho
  | m + 1, i, o, h, t, r, hk, hx, ho, hr, t0, t3, t4 => by
    have hl := (hv.mono hx).len
    have hn : ((i : Int) < bs.length) := by omega
    have hi : i < bs.length := by omega
    have hcat : (bs.take (i + 1)).flatten = (bs.take i).flatten ++ bs.getD i [] := by
      rw [List.take_add_one, List.getElem?_eq_getElem hi, Option.toList_some, List.flatten_append, List.flatten_singleton, List.getD_eq_getElem?_getD, List.getElem?_eq_getElem hi]
      rfl
    have hle : (bs.take (i + 1)).flatten.length ≤ bs.flatten.length := by
      conv => rhs; rw [← List.take_append_drop (i + 1) bs]
      rw [List.flatten_append, List.length_append]; omega
    have hle2 := hle
    rw [hcat, List.length_append] at hle2
    have hin := ref01_Join_inner (E := E) h0 bs v hv i hi (by omega) (bs.getD i []).length 0 (bs.take i).flatten o h
    have ih := ref01_Join_outer h0 bs v hv hlb hbl m (i + 1)
    rw [runA_loop] at hr
    simp [ref01_Join_L1, t0, t4, hl, hn] at hr
    generalize hr1 : runA E (.loop ref01_Join_L0) _ h = r1 at hr
    obtain ⟨t2, h2, o2, rfl, q2, q3, q4, q5, q6⟩ := hin _ _ (by omega) hx ho hr1 (by simp [t0]) (by simp [t3]) (by simp [t4]) (by simp) (by omega) (by omega)
    simp (disch := omega) [q6, wrap_i64] at hr
    refine ih o2 h2 _ _ (by omega) q2 ?_ hr (by simp [q4]) (by simp [q5]) (by simp)
    rw [hcat]
    simpa using q3

theorem ref01_Join {h : Heap} {bs : List (List Nat)} {v : Value} (hv : SlBs h bs v) (hlb : bs.flatten.length ≤ 140737488355328) (hbl : bs.length < 140737488355328) :
    ∃ h' o, callA E "ref01.Join" [v] h = some (o, h') ∧ Ext h h' ∧ OwnB h h' bs.flatten o := by
  rw [callA_code e.ref01_Join]
  have hloop := ref01_Join_outer (E := E) h bs v hv hlb hbl bs.length 0 (.slice none 0 0) h
  simp [ref01_Join_B]
  generalize hr : runA E (.loop ref01_Join_L1) _ h = r
  obtain ⟨t', h', o', rfl, q2, q3, q4⟩ := hloop _ _ (by omega) (.refl h) (by simpa using OwnB.nil) hr (by simp) (by simp) (by simp)
  exact ⟨h', o', by simp [q4], q2, q3⟩

omit e in
theorem ref01_SameBytes_loop (h : Heap) (a b : List Nat) (u v : Value) (hu : SlB h a u) (hv : SlB h b v) (hl : a.length = b.length) (hla : a.length ≤ 140737488355328) : ∀ (m k : Nat) (t : T) (r), k + m = a.length → a.take k = b.take k → runA E (.loop ref01_SameBytes_L0) t h = r →
    t 0 = u → t 1 = v → t 5 = .int .i64 k → ∃ t' ex, r = some (ex, t', h) ∧ ((ex = .exit 0 ∧ a = b) ∨ (ex = .ret ∧ t' 4 = .bool false ∧ a ≠ b))
  | 0, k, t, r, hk, heq, hr, t0, t1, t5 => by
    have hlen := hu.len
    have hn : ¬ ((k : Int) < a.length) := by omega
    rw [runA_loop] at hr
    simp [ref01_SameBytes_L0, t0, t5, hlen, hn] at hr
    refine ⟨_, _, hr.symm, .inl ⟨rfl, ?_⟩⟩
    rw [List.take_of_length_le (by omega), List.take_of_length_le (by omega)] at heq
    exact heq
  | m + 1, k, t, r, hk, heq, hr, t0, t1, t5 => by
    have hlen := hu.len
    have hn : ((k : Int) < a.length) := by omega
    have hka : k < a.length := by omega
    have hkb : k < b.length := by omega
    have i1 := hu.idx (k := .i64) (j := k) (by omega) (by omega)
    have i2 := hv.idx (k := .i64) (j := k) (by omega) (by omega)
    have r1 := hu.read hka
    have r2 := hv.read hkb
    have s1 := take_succ_getD hka
    have s2 := take_succ_getD hkb
    have ih := ref01_SameBytes_loop h a b u v hu hv hl hla m (k + 1)
    have hne : a.getD k 0 ≠ b.getD k 0 → a ≠ b := fun hn he => hn (by rw [he])
    generalize a.getD k 0 = x at *
    generalize b.getD k 0 = y at *
    simp at i1 i2
    rw [runA_loop] at hr
    by_cases hxy : x = y
    · subst hxy
      simp (disch := omega) [ref01_SameBytes_L0, t0, t1, t5, hlen, hn, i1, i2, r1, r2, wrap_i64] at hr
      exact ih _ _ (by omega) (by rw [s1, s2, heq]) hr (by simp [t0]) (by simp [t1]) (by simp)
    · have hxy' : ¬ (x : Int) = y := by omega
      simp (disch := omega) [ref01_SameBytes_L0, t0, t1, t5, hlen, hn, i1, i2, r1, r2, hxy'] at hr
      exact ⟨_, _, hr.symm, .inr ⟨rfl, by simp, hne hxy⟩⟩

theorem ref01_SameBytes {h : Heap} {a b : List Nat} {u v : Value} (hu : SlB h a u) (hv : SlB h b v) (hla : a.length ≤ 140737488355328) : callA E "ref01.SameBytes" [u, v] h = some (.bool (decide (a = b)), h) := by
  rw [callA_code e.ref01_SameBytes]
  have l1 := hu.len
  have l2 := hv.len
  by_cases hl : a.length = b.length
  · have hl' : (a.length : Int) = b.length := by omega
    have hloop := ref01_SameBytes_loop (E := E) h a b u v hu hv hl hla a.length 0
    simp [ref01_SameBytes_B, l1, l2, hl']
    generalize hr : runA E (.loop ref01_SameBytes_L0) _ h = r
    obtain ⟨t', ex, rfl, ⟨rfl, he⟩ | ⟨rfl, q, he⟩⟩ := hloop _ _ (by omega) rfl hr (by simp) (by simp) (by simp)
    · simp [he]
    · simp [q, he]
  · have hl' : ¬ (a.length : Int) = b.length := by omega
    have he : ¬ a = b := fun he => hl (by rw [he])
    simp [ref01_SameBytes_B, l1, l2, hl', he]

/-- What is wrong with a place and a number of bytes. -/
def cutE (len a n : Int) : Int := if a < 0 ∨ n < 0 then 1 else if len < a ∨ len - a < n then 2 else 0

def cutB (b : List Nat) (a n : Int) : List Nat := if cutE b.length a n = 0 then (b.drop a.toNat).take n.toNat else []

theorem octet_Cut {h : Heap} {b : List Nat} {v : Value} (hv : SlB h b v) (hb : b.length ≤ reach) (a n : Int) (ha : I64 a) (hn : I64 n) :
    ∃ h' o, callA E "octet.Cut" [v, .int .i64 a, .int .i64 n] h = some (.tuple #[o, .int .i64 (cutE b.length a n)], h') ∧ Ext h h' ∧ OwnB h h' (cutB b a n) o := by
  rw [callA_code e.octet_Cut]
  unfold I64 at *
  unfold reach reachBytes at hb
  have hl := hv.len
  by_cases h1 : a < 0
  · refine ⟨h, .slice none 0 0, by simp [octet_Cut_B, h1, cutE], .refl h, ?_⟩
    simpa [cutB, cutE, h1] using OwnB.nil
  · by_cases h2 : n < 0
    · refine ⟨h, .slice none 0 0, by simp [octet_Cut_B, h1, h2, cutE], .refl h, ?_⟩
      simpa [cutB, cutE, h1, h2] using OwnB.nil
    · by_cases h3 : (b.length : Int) < a
      · refine ⟨h, .slice none 0 0, by simp [octet_Cut_B, h1, h2, h3, hl, cutE], .refl h, ?_⟩
        simpa [cutB, cutE, h1, h2, h3] using OwnB.nil
      · by_cases h4 : (b.length : Int) - a < n
        · refine ⟨h, .slice none 0 0, by simp (disch := omega) [octet_Cut_B, h1, h2, h3, h4, hl, cutE, wrap_i64], .refl h, ?_⟩
          simpa [cutB, cutE, h1, h2, h3, h4] using OwnB.nil
        · obtain ⟨a, rfl⟩ := Int.eq_ofNat_of_zero_le (by omega : 0 ≤ a)
          obtain ⟨n, rfl⟩ := Int.eq_ofNat_of_zero_le (by omega : 0 ≤ n)
          have hmake := aMake_one h (k := .i64) (k' := .i64) (bytes := 1) (z := .int .u8 0) (l := n) (by omega) (by omega)
          have hv' := hv.mono (.new h (List.replicate n (.int .u8 0)))
          have hsub := hv'.sub (lo := a) (hi := b.length) (by omega) (by omega)
          have hasub := Sl.aSubLo hv' (k := .i64) (lo := a) (by omega) (by omega)
          have hcopy := copy_new (h := h) (cells := List.replicate n (.int .u8 0)) (n := n) (by simp) hsub
          have hl3 : ((b.drop a).take (b.length - a)) = b.drop a := List.take_of_length_le (by rw [List.length_drop]; omega)
          have hmin : Nat.min (b.drop a).length n = n := Nat.min_eq_right (by rw [List.length_drop]; omega)
          have hz0 : (List.replicate n (Value.int .u8 0)).drop n = [] := by simp
          rw [hl3, hmin, hz0, List.append_nil] at hcopy
          simp only [Int.toNat_natCast] at hmake hasub
          have hB : cutB b a n = (b.drop a).take n := by simp [cutB, cutE, h1, h2, h3, h4]
          have hE : cutE b.length a n = 0 := by simp [cutE, h1, h2, h3, h4]
          rw [hB, hE]
          have hlB : ((b.drop a).take n).length = n := by rw [List.length_take, List.length_drop]; omega
          have hown := own_new h (s := 1) (n := n) (cs := bytesV ((b.drop a).take n)) (by rw [bytesV_len, hlB]; omega)
          refine ⟨newBlk h (bytesV ((b.drop a).take n)), .slice (some ⟨h.length, 0, none⟩) n 1, ?_, .new _ _, by unfold OwnB; rw [hlB]; exact hown⟩
          simp (disch := omega) [octet_Cut_B, h1, h2, h3, h4, hl, wrap_i64, hmake, hasub, hcopy]

theorem ref01_Cut {h : Heap} {b : List Nat} {v : Value} (hv : SlB h b v) (hb : b.length ≤ reach) (a n : Int) (ha : I64 a) (hn : I64 n) :
    ∃ h' o, callA E "ref01.Cut" [v, .int .i64 a, .int .i64 n] h = some (.tuple #[o, .int .i64 (cutE b.length a n)], h') ∧ Ext h h' ∧ OwnB h h' (cutB b a n) o := by
  rw [callA_code e.ref01_Cut]
  unfold I64 at *
  unfold reach reachBytes at hb
  have hl := hv.len
  by_cases h1 : a < 0
  · refine ⟨h, .slice none 0 0, by simp [ref01_Cut_B, h1, cutE], .refl h, ?_⟩
    simpa [cutB, cutE, h1] using OwnB.nil
  · by_cases h2 : n < 0
    · refine ⟨h, .slice none 0 0, by simp [ref01_Cut_B, h1, h2, cutE], .refl h, ?_⟩
      simpa [cutB, cutE, h1, h2] using OwnB.nil
    · by_cases h3 : (b.length : Int) < a
      · refine ⟨h, .slice none 0 0, by simp [ref01_Cut_B, h1, h2, h3, hl, cutE], .refl h, ?_⟩
        simpa [cutB, cutE, h1, h2, h3] using OwnB.nil
      · by_cases h4 : (b.length : Int) - a < n
        · refine ⟨h, .slice none 0 0, by simp (disch := omega) [ref01_Cut_B, h1, h2, h3, h4, hl, cutE, wrap_i64], .refl h, ?_⟩
          simpa [cutB, cutE, h1, h2, h3, h4] using OwnB.nil
        · obtain ⟨a, rfl⟩ := Int.eq_ofNat_of_zero_le (by omega : 0 ≤ a)
          obtain ⟨n, rfl⟩ := Int.eq_ofNat_of_zero_le (by omega : 0 ≤ n)
          have hsub := hv.sub (lo := a) (hi := a + n) (by omega) (by omega)
          have hasub := Sl.aSub2 hv (k := .i64) (k' := .i64) (lo := a) (hi := (a : Int) + n) (by omega) (by omega) (by omega)
          have e1 : a + n - a = n := by omega
          have e2 : ((a : Int) + n).toNat = a + n := by omega
          rw [e1] at hsub
          rw [e2] at hasub
          simp only [Int.toNat_natCast] at hasub
          have hB : cutB b a n = (b.drop a).take n := by simp [cutB, cutE, h1, h2, h3, h4]
          have hE : cutE b.length a n = 0 := by simp [cutE, h1, h2, h3, h4]
          rw [hB, hE]
          have hlB : ((b.drop a).take n).length = n := by rw [List.length_take, List.length_drop]; omega
          generalize (b.drop a).take n = B at *
          generalize subAt v a (a + n) = u at *
          have hbs := slBs_one hsub
          have hc := hsub.cells
          obtain ⟨h', o, q1, q2, q3⟩ := ref01_Join e hbs (by simp; omega) (by simp)
          simp at q3
          refine ⟨h', o, ?_, (Ext.new h [u]).trans q2, Own.old q3 (by rw [newBlk_len]; omega)⟩
          simp (disch := omega) [ref01_Cut_B, h1, h2, h3, h4, hl, wrap_i64, hasub, repCells, hc, q1]
end
end Go.Wb.P01

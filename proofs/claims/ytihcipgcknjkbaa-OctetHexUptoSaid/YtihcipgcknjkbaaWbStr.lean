/- Strings as lists of numbers. -/
import Derived.Test.YtihcipgcknjkbaaWbSl
namespace Go.Wb
open Go

def strOf (l : List Nat) : ByteArray := ⟨(l.map UInt8.ofNat).toArray⟩

theorem strOf_size (l : List Nat) : (strOf l).size = l.length := by simp [strOf, ByteArray.size]

theorem str_of (s : ByteArray) : ∃ l : List Nat, s = strOf l ∧ (∀ x ∈ l, x < 256) ∧ l.length = s.size := by
  refine ⟨s.data.toList.map UInt8.toNat, ?_, ?_, by rw [List.length_map, Array.length_toList]; rfl⟩
  · cases s with
    | mk d => simp [strOf, List.map_map, Function.comp_def]
  · intro x hx
    obtain ⟨y, _, rfl⟩ := List.mem_map.1 hx
    exact UInt8.toNat_lt y

theorem strAt {l : List Nat} (h256 : ∀ x ∈ l, x < 256) {i : Int} (h0 : 0 ≤ i) (h1 : i < l.length) : aStrAt (strOf l) i = some (.int .u8 (l.getD i.toNat 0 : Nat)) := by
  unfold aStrAt
  rw [if_pos h0]
  have hi : i.toNat < l.length := by omega
  have hx := h256 _ (getD_mem hi)
  rw [List.getD_eq_getElem?_getD, List.getElem?_eq_getElem hi, Option.getD_some] at *
  simp only [strOf, List.getElem?_map, List.getElem?_eq_getElem hi, Option.map_some, UInt8.toNat_ofNat']
  rw [Nat.mod_eq_of_lt hx]

theorem bytesStr_of {h : Heap} {b : List Nat} {v : Value} (hv : SlB h b v) : aBytesStr h v = some (.string (strOf b)) := by
  have hs : isStr v = false := by
    rcases hv.2 with ⟨_, rfl⟩ | ⟨i, o, rfl, _⟩ <;> rfl
  unfold aBytesStr
  rw [hv.src]
  simp only
  rw [if_pos ⟨hs, by simp [bytesV]⟩]
  simp [bytesV, strOf, List.map_map, Function.comp_def]

theorem aMake_none (h : Heap) {k k' : IntKind} {size bytes : Nat} {z : Value} {c : Int} (h0 : 0 ≤ c) (hb : bytes * c ≤ 281474976710656) :
    aMake h size bytes [z] (.int k 0) (.int k' c) = some (.slice (some ⟨h.length, 0, none⟩) 0 size, newBlk h []) := by
  simp only [aMake]
  rw [if_pos ⟨by omega, h0, by show (bytes : Int) * c ≤ ((2 ^ 48 : Nat) : Int); simpa using hb⟩]
  rfl

theorem own_none (h : Heap) : OwnB h (newBlk h []) [] (.slice (some ⟨h.length, 0, none⟩) 0 1) := own_new h (by simp)

theorem shr_u8 {a k : Nat} (hk : k ≤ 8) : aShift .shr .u8 (a : Int) (k : Int) = some (.int .u8 ((a / 2 ^ k : Nat) : Int)) := by
  have h1 : min k 8 = k := Nat.min_eq_left hk
  simp only [aShift, Int.toNat_natCast, IntKind.bits, h1]
  rw [if_neg (by omega), Int.fdiv_eq_ediv_of_nonneg _ (by exact Int.pow_nonneg (by decide))]
  simp

theorem and_u8 {a : Nat} (ha : a < 256) : bits .and .u8 (a : Int) 15 = ((a % 16 : Nat) : Int) := by
  have := bits_mask .u8 8 (by decide) (fun n h0 h1 => wrap_u8 h0 (by simpa using h1)) 4 (by decide) (a : Int) (by omega) (by omega)
  simpa using this

/-- Two bytes at once. -/
theorem slB_two (h : Heap) (c d : Nat) : SlB (newBlk h [.int .u8 (c : Nat), .int .u8 (d : Nat)]) [c, d] (.slice (some ⟨h.length, 0, none⟩) 2 1) := slB_lit h [c, d]

/-- A block written, and read, as a whole. -/
theorem write_all {h : Heap} {i n : Nat} {cs : List Value} {c : Array Value} (hb : h[i]? = some (.mem false cs)) (hl : cs.length = n) (hc : c.size = n) :
    writeV h (some n) (.pointer (some ⟨i, 0, none⟩)) (.agg c) = some (h.set i (.mem false c.toList)) := by
  simp only [writeV, hc, if_true, writeN, hb]
  rw [if_pos (by have : c.toList.length = c.size := Array.length_toList; omega)]
  have e : cs.drop (0 + c.toList.length) = [] := List.drop_of_length_le (by have : c.toList.length = c.size := Array.length_toList; omega)
  rw [e]
  simp

theorem read_all {h : Heap} {i : Nat} {ro : Bool} {cs : List Value} {n : Nat} (hb : h[i]? = some (.mem ro cs)) (hl : cs.length = n) : readN h i 0 n = some cs := by
  rw [readN_of hb (by omega), List.drop_zero, List.take_of_length_le (by omega)]

theorem strLen {l : List Nat} : ((strOf l).size : Int) = (l.length : Nat) := by rw [strOf_size]

theorem write_new_all {h : Heap} {n : Nat} {cs : List Value} {c : Array Value} (hl : cs.length = n) (hc : c.size = n) :
    writeV (newBlk h cs) (some n) (.pointer (some ⟨h.length, 0, none⟩)) (.agg c) = some (newBlk h c.toList) := by
  rw [write_all (newBlk_get h cs) hl hc]
  simp only [newBlk, set_new]

theorem read_ext_all {h h' : Heap} {cs : List Value} {n : Nat} (x : Ext (newBlk h cs) h') (hl : cs.length = n) : readN h' h.length 0 n = some cs := read_all (x.get (newBlk_get h cs)) hl

end Go.Wb

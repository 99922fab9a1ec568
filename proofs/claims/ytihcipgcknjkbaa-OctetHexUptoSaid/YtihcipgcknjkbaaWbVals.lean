/- What a law is handed, taken apart. -/
import Derived.Test.YtihcipgcknjkbaaWbLaw
import Derived.Test.YtihcipgcknjkbaaWbLib
namespace Go.Wb
open Go

theorem aval_int {B : Nat} {k : IntKind} {h : Heap} {v : Value} (hv : AVal B (.int k) h v) : ∃ n, v = .int k n ∧ (Lit.int k n).wf = true := by
  simp only [AVal, Ty.agg, Bool.false_eq_true, if_false, AOk] at hv
  obtain ⟨n, h1, h2⟩ := hv
  exact ⟨n, by simpa using h1, h2⟩

theorem aval_bool {B : Nat} {h : Heap} {v : Value} (hv : AVal B .bool h v) : ∃ b, v = .bool b := by
  simp only [AVal, Ty.agg, Bool.false_eq_true, if_false, AOk] at hv
  obtain ⟨n, h1⟩ := hv
  exact ⟨n, by simpa using h1⟩

theorem aval_str {B : Nat} {h : Heap} {v : Value} (hv : AVal B .str h v) : ∃ s : ByteArray, v = .string s ∧ s.size ≤ reach ∧ s.size ≤ B := by
  simp only [AVal, Ty.agg, Bool.false_eq_true, if_false, AOk] at hv
  obtain ⟨n, h1, h2⟩ := hv
  exact ⟨n, by simpa using h1, h2⟩

theorem rows_int {B : Nat} {k : IntKind} {h : Heap} : ∀ {rows : List (List Value)}, (∀ r ∈ rows, AOk B (.int k) h r) → ∃ l : List Int, l.length = rows.length ∧ rows.flatten = l.map (Value.int k) ∧ ∀ x ∈ l, (Lit.int k x).wf = true
  | [], _ => ⟨[], rfl, rfl, by simp⟩
  | r :: rows, hr => by
    have h0 := hr r (by simp)
    simp only [AOk] at h0
    obtain ⟨n, rfl, hn⟩ := h0
    obtain ⟨l, h1, h2, h3⟩ := rows_int (rows := rows) (fun r hm => hr r (by simp [hm]))
    refine ⟨n :: l, by simp [h1], by simp [h2], fun x hx => ?_⟩
    cases hx with
    | head => exact hn
    | tail _ hx => exact h3 x hx

theorem aval_arr {B : Nat} {k : IntKind} {n : Nat} {h : Heap} {v : Value} (hv : AVal B (.arr n (.int k)) h v) : ∃ l : List Int, l.length = n ∧ v = .agg (l.map (Value.int k)).toArray ∧ ∀ x ∈ l, (Lit.int k x).wf = true := by
  simp only [AVal, Ty.agg, if_true, AOk] at hv
  obtain ⟨cs, rfl, rows, h1, h2, h3⟩ := hv
  obtain ⟨l, q1, q2, q3⟩ := rows_int (B := B) (h := h) (by simpa only [AOk] using h3)
  refine ⟨l, by omega, ?_, q3⟩
  congr 1
  rw [← q2, ← h2]

theorem wf_u8 {n : Int} (h : (Lit.int .u8 n).wf = true) : 0 ≤ n ∧ n < 256 := by
  simp [Lit.wf, IntKind.min, IntKind.max, IntKind.signed, IntKind.bits] at h
  omega
theorem wf_u16 {n : Int} (h : (Lit.int .u16 n).wf = true) : 0 ≤ n ∧ n < 65536 := by
  simp [Lit.wf, IntKind.min, IntKind.max, IntKind.signed, IntKind.bits] at h
  omega
theorem wf_u32 {n : Int} (h : (Lit.int .u32 n).wf = true) : 0 ≤ n ∧ n < 4294967296 := by
  simp [Lit.wf, IntKind.min, IntKind.max, IntKind.signed, IntKind.bits] at h
  omega

theorem nats_of {l : List Int} {m : Nat} (h : ∀ x ∈ l, 0 ≤ x ∧ x < (m : Int)) : ∃ b : List Nat, l = b.map Int.ofNat ∧ ∀ x ∈ b, x < m := by
  refine ⟨l.map Int.toNat, ?_, ?_⟩
  · rw [List.map_map]
    have : l.map id = l := List.map_id l
    rw [← this]
    rw [List.map_map]
    apply List.map_congr_left
    intro x hx
    simp only [id, Function.comp]
    have := h x hx
    show x = ((x.toNat : Nat) : Int)
    omega
  · intro x hx
    obtain ⟨y, hy, rfl⟩ := List.mem_map.1 hx
    have := h y hy
    omega

/-- Some bytes, as cells. -/
def bytesV (b : List Nat) : List Value := b.map fun x => Value.int .u8 (x : Nat)

/-- A slice of bytes, as a law is handed it: nil, or a whole block. -/
def BytesAt (h : Heap) (b : List Nat) (v : Value) : Prop :=
  (b = [] ∧ v = .slice none 0 0) ∨ ∃ i ro, v = .slice (some ⟨i, 0, none⟩) b.length 1 ∧ h[i]? = some (.mem ro (bytesV b))

theorem aval_bytes {B : Nat} {h : Heap} {v : Value} (hv : AVal B (.sl 1 1 (.int .u8)) h v) : ∃ b : List Nat, BytesAt h b v ∧ (∀ x ∈ b, x < 256) ∧ b.length ≤ reach ∧ b.length ≤ B := by
  simp only [AVal, Ty.agg, Bool.false_eq_true, if_false, AOk] at hv
  rcases hv with hv | ⟨i, rows, h1, h2, h3, h4, h4', h5⟩
  · exact ⟨[], .inl ⟨rfl, by simpa using hv⟩, by simp, by simp, by simp⟩
  · obtain ⟨l, q1, q2, q3⟩ := rows_int (B := B) (h := h) (k := .u8) (rows := rows) (fun r hr => by simpa only [AOk] using (h5 r hr).2)
    obtain ⟨b, rfl, hb⟩ := nats_of (l := l) (m := 256) (fun x hx => wf_u8 (q3 x hx))
    rw [List.length_map] at q1
    refine ⟨b, .inr ⟨i, true, ?_, ?_⟩, hb, by omega, by omega⟩
    · simp at h1
      rw [h1, q1]
    · rw [h3, q2, List.map_map]
      rfl

end Go.Wb

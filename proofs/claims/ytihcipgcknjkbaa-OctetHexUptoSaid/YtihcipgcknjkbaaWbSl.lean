/- Slices: what can be read of them, what a function has made itself; heaps that only grow. -/
import Derived.Test.YtihcipgcknjkbaaWbVals
namespace Go.Wb
open Go

/-- All old blocks are as they were. -/
structure Ext (h h' : Heap) : Prop where
  len : h.length ≤ h'.length
  same : ∀ b, b < h.length → h'[b]? = h[b]?

theorem Ext.refl (h : Heap) : Ext h h := ⟨Nat.le_refl _, fun _ _ => rfl⟩
theorem Ext.trans {a b c : Heap} (x : Ext a b) (y : Ext b c) : Ext a c := ⟨Nat.le_trans x.len y.len, fun i hi => by rw [y.same i (Nat.lt_of_lt_of_le hi x.len), x.same i hi]⟩
theorem Ext.get {h h' : Heap} (x : Ext h h') {b : Nat} {y : Blk} (hb : h[b]? = some y) : h'[b]? = some y := by rw [x.same b (get_lt hb)]; exact hb
theorem Ext.app (h x : Heap) : Ext h (h ++ x) := ⟨by simp, fun b hb => List.getElem?_append_left hb⟩
theorem Ext.new (h : Heap) (cs : List Value) : Ext h (newBlk h cs) := Ext.app _ _
theorem Ext.set {h h' : Heap} (x : Ext h h') {i : Nat} (hi : h.length ≤ i) (y : Blk) : Ext h (h'.set i y) := ⟨by simpa using x.len, fun b hb => by rw [List.getElem?_set_ne (by omega)]; exact x.same b hb⟩

theorem newBlk_get (h : Heap) (cs : List Value) : (newBlk h cs)[h.length]? = some (.mem false cs) := by simp [newBlk]
theorem newBlk_len (h : Heap) (cs : List Value) : (newBlk h cs).length = h.length + 1 := by simp [newBlk]

def ptrAt (v : Value) (i : Nat) : Value :=
  match v with
  | .slice (some ⟨b, o, _⟩) _ s => .pointer (some ⟨b, o + i * s, none⟩)
  | _ => undef

/-- A slice of 'n' elements of 's' cells, that can be read. -/
def Sl (h : Heap) (s n : Nat) (cs : List Value) (v : Value) : Prop :=
  cs.length = n * s ∧ ((n = 0 ∧ v = .slice none 0 0) ∨ ∃ i o, v = .slice (some ⟨i, o, none⟩) n s ∧ (n = 0 ∨ ∃ ro blk, h[i]? = some (.mem ro blk) ∧ o + n * s ≤ blk.length ∧ (blk.drop o).take (n * s) = cs))

/-- A slice that has been made since the heap was 'h0', with a block of its own. -/
def Own (h0 h : Heap) (s n : Nat) (cs : List Value) (v : Value) : Prop :=
  cs.length = n * s ∧ ((n = 0 ∧ v = .slice none 0 0) ∨ ∃ i, h0.length ≤ i ∧ v = .slice (some ⟨i, 0, none⟩) n s ∧ h[i]? = some (.mem false cs))

section
variable {h0 h h' : Heap} {s n : Nat} {cs : List Value} {v : Value}

theorem Own.sl (x : Own h0 h s n cs v) : Sl h s n cs v := by
  refine ⟨x.1, ?_⟩
  rcases x.2 with y | ⟨i, h1, h2, h3⟩
  · exact .inl y
  · exact .inr ⟨i, 0, h2, .inr ⟨false, cs, h3, by rw [x.1]; omega, by rw [← x.1]; simp⟩⟩

theorem Sl.mono (x : Sl h s n cs v) (e : Ext h h') : Sl h' s n cs v := by
  refine ⟨x.1, ?_⟩
  rcases x.2 with y | ⟨i, o, h1, h2⟩
  · exact .inl y
  · refine .inr ⟨i, o, h1, ?_⟩
    rcases h2 with h2 | ⟨ro, blk, h3, h4⟩
    · exact .inl h2
    · exact .inr ⟨ro, blk, e.get h3, h4⟩

theorem Own.mono (x : Own h0 h s n cs v) (e : Ext h h') : Own h0 h' s n cs v := by
  refine ⟨x.1, ?_⟩
  rcases x.2 with y | ⟨i, h1, h2, h3⟩
  · exact .inl y
  · exact .inr ⟨i, h1, h2, e.get h3⟩

theorem Own.old {h1 : Heap} (x : Own h1 h s n cs v) (e : h0.length ≤ h1.length) : Own h0 h s n cs v := by
  refine ⟨x.1, ?_⟩
  rcases x.2 with y | ⟨i, h1, h2, h3⟩
  · exact .inl y
  · exact .inr ⟨i, by omega, h2, h3⟩

theorem Sl.nil : Sl h s 0 [] (.slice none 0 0) := ⟨by simp, .inl ⟨rfl, rfl⟩⟩
theorem Own.nil : Own h0 h s 0 [] (.slice none 0 0) := ⟨by simp, .inl ⟨rfl, rfl⟩⟩

theorem Sl.len (x : Sl h s n cs v) : aLen v = some (.int .i64 n) := by
  rcases x.2 with ⟨rfl, rfl⟩ | ⟨i, o, rfl, _⟩ <;> rfl

theorem Sl.srcLen (x : Sl h s n cs v) : srcLen v = n := by
  rcases x.2 with ⟨rfl, rfl⟩ | ⟨i, o, rfl, _⟩ <;> rfl

theorem Sl.src (x : Sl h s n cs v) : srcCells h s v = some cs := by
  rcases x.2 with ⟨rfl, rfl⟩ | ⟨i, o, rfl, h2⟩
  · have : cs = [] := by have := x.1; simp at this; exact this
    subst this; rfl
  · simp only [srcCells, if_true]
    by_cases hn : n = 0
    · subst hn
      have : cs = [] := by have := x.1; simp at this; exact this
      subst this; rfl
    · rw [if_neg hn]
      rcases h2 with h2 | ⟨ro, blk, h3, h4, h5⟩
      · exact (hn h2).elim
      · simp only [readN, h3]
        rw [if_pos h4, h5]

theorem Sl.idx (x : Sl h s n cs v) {k : IntKind} {j : Int} (h1 : 0 ≤ j) (h2 : j < n) : aIdx s v (.int k j) = some (ptrAt v j.toNat) := by
  rcases x.2 with ⟨rfl, rfl⟩ | ⟨i, o, rfl, _⟩
  · omega
  · simp only [aIdx, true_and, ptrAt]
    rw [if_pos ⟨h1, h2⟩]

theorem Sl.read (x : Sl h 1 n cs v) {j : Nat} (hj : j < n) : readV h none (ptrAt v j) = cs[j]? := by
  rcases x.2 with ⟨rfl, rfl⟩ | ⟨i, o, rfl, h2⟩
  · omega
  · rcases h2 with h2 | ⟨ro, blk, h3, h4, h5⟩
    · omega
    · simp only [ptrAt, readV, read1, h3]
      rw [← h5, List.getElem?_take, if_pos (by omega), List.getElem?_drop]
      congr 1; omega

theorem Sl.readN (x : Sl h s n cs v) {j : Nat} (hj : j < n) : readV h (some s) (ptrAt v j) = some (.agg ((cs.drop (j * s)).take s).toArray) := by
  rcases x.2 with ⟨rfl, rfl⟩ | ⟨i, o, rfl, h2⟩
  · omega
  · rcases h2 with h2 | ⟨ro, blk, h3, h4, h5⟩
    · omega
    · have hle : (j + 1) * s ≤ n * s := Nat.mul_le_mul_right s hj
      rw [Nat.succ_mul] at hle
      simp only [ptrAt, readV, Go.Wb.readN, h3]
      rw [if_pos (by omega), ← h5]
      simp only [Option.map_some]
      congr 3
      rw [List.drop_take, List.take_take, List.drop_drop, Nat.min_eq_left (by omega)]

def subAt (v : Value) (lo hi : Nat) : Value :=
  match v with
  | .slice (some ⟨b, o, _⟩) _ s => .slice (some ⟨b, o + lo * s, none⟩) (hi - lo) s
  | v => v

theorem Sl.sub (x : Sl h s n cs v) {lo hi : Nat} (h1 : lo ≤ hi) (h2 : hi ≤ n) : Sl h s (hi - lo) ((cs.drop (lo * s)).take ((hi - lo) * s)) (subAt v lo hi) := by
  have hle : hi * s ≤ n * s := Nat.mul_le_mul_right s h2
  have hle2 : lo * s ≤ hi * s := Nat.mul_le_mul_right s h1
  have hms : (hi - lo) * s = hi * s - lo * s := Nat.sub_mul hi lo s
  refine ⟨?_, ?_⟩
  · rw [List.length_take, List.length_drop, x.1]; omega
  · rcases x.2 with ⟨rfl, rfl⟩ | ⟨i, o, rfl, h3⟩
    · exact .inl ⟨by omega, rfl⟩
    · refine .inr ⟨i, o + lo * s, rfl, ?_⟩
      rcases h3 with h3 | ⟨ro, blk, q1, q2, q3⟩
      · exact .inl (by omega)
      · refine .inr ⟨ro, blk, q1, by omega, ?_⟩
        rw [← q3, List.drop_take, List.take_take, List.drop_drop, Nat.min_eq_left (by omega)]

theorem Sl.aSub2 (x : Sl h s n cs v) {k k' : IntKind} {lo hi : Int} (h0 : 0 ≤ lo) (h1 : lo ≤ hi) (h2 : hi ≤ n) : aSub s v (some (.int k lo)) (some (.int k' hi)) = some (subAt v lo.toNat hi.toNat) := by
  rcases x.2 with ⟨rfl, rfl⟩ | ⟨i, o, rfl, _⟩
  · have e1 : lo = 0 := by omega
    have e2 : hi = 0 := by omega
    subst e1 e2
    rfl
  · simp only [aSub, if_true, boundV]
    rw [if_pos (by omega)]
    simp only
    rw [if_pos (by omega)]
    rfl

theorem Sl.aSubLo (x : Sl h s n cs v) {k : IntKind} {lo : Int} (h0 : 0 ≤ lo) (h1 : lo ≤ n) : aSub s v (some (.int k lo)) none = some (subAt v lo.toNat n) := by
  rcases x.2 with ⟨rfl, rfl⟩ | ⟨i, o, rfl, _⟩
  · have e1 : lo = 0 := by omega
    subst e1
    rfl
  · simp only [aSub, if_true, boundV]
    rw [if_pos (by omega)]
    simp only
    rw [if_pos (by omega)]
    rfl

theorem Sl.aSubHi (x : Sl h s n cs v) {k : IntKind} {hi : Int} (h0 : 0 ≤ hi) (h1 : hi ≤ n) : aSub s v none (some (.int k hi)) = some (subAt v 0 hi.toNat) := by
  rcases x.2 with ⟨rfl, rfl⟩ | ⟨i, o, rfl, _⟩
  · have e1 : hi = 0 := by omega
    subst e1
    rfl
  · simp only [aSub, if_true, boundV]
    rw [if_pos (by omega)]
    simp only
    rw [if_pos (by omega)]
    rfl

/-- A new slice. -/
theorem own_new (h : Heap) {s n : Nat} {cs : List Value} (hl : cs.length = n * s) : Own h (newBlk h cs) s n cs (.slice (some ⟨h.length, 0, none⟩) n s) := ⟨hl, .inr ⟨h.length, Nat.le_refl _, rfl, newBlk_get h cs⟩⟩

theorem aMake_one (h : Heap) {k k' : IntKind} {bytes : Nat} {z : Value} {l : Int} (h0 : 0 ≤ l) (hb : bytes * l ≤ 281474976710656) :
    aMake h 1 bytes [z] (.int k l) (.int k' l) = some (.slice (some ⟨h.length, 0, none⟩) l.toNat 1, newBlk h (List.replicate l.toNat z)) := by
  simp only [aMake]
  rw [if_pos ⟨h0, Int.le_refl _, by show (bytes : Int) * l ≤ ((2 ^ 48 : Nat) : Int); simpa using hb⟩]
  rfl

/-- Something is put behind what a function has made. -/
theorem Own.append (x : Own h0 h s n cs v) {h1 : Heap} (e0 : Ext h0 h1) (e : Ext h h1) {bytes m : Nat} {new : List Value} {u : Value} (hs : srcCells h1 s u = some new) (hm : Go.Wb.srcLen u = m) (hl : new.length = m * s) (hb : (n + m) * bytes ≤ 140737488355328) :
    ∃ v' h', aAppend h1 s bytes v u = some (v', h') ∧ Ext h0 h' ∧ Own h0 h' s (n + m) (cs ++ new) v' ∧ h1.length ≤ h'.length := by
  have hb' : (n + m) * bytes ≤ lim47 := hb
  have hlen : (cs ++ new).length = (n + m) * s := by rw [List.length_append, x.1, hl, Nat.add_mul]
  unfold aAppend
  rw [hs]
  rcases x.2 with ⟨rfl, rfl⟩ | ⟨i, hi, rfl, h2⟩
  · have hc : cs = [] := by have := x.1; simp at this; exact this
    subst hc
    simp only
    rw [hm]
    by_cases h0' : m = 0
    · subst h0'
      rw [if_pos rfl]
      have : new = [] := by simp at hl; exact hl
      subst this
      exact ⟨_, _, rfl, e0, by simpa using x.mono e, Nat.le_refl _⟩
    · rw [if_neg h0', if_pos (by simpa using hb')]
      refine ⟨_, _, rfl, e0.trans (.new _ _), ?_, by rw [newBlk_len]; omega⟩
      have := own_new h1 (s := s) (n := 0 + m) (cs := new) (by simpa using hl)
      simpa using this.old e0.len
  · have h3 := e.get h2
    simp only [if_true]
    rw [hm]
    by_cases h0' : m = 0
    · subst h0'
      rw [if_pos rfl]
      have : new = [] := by simp at hl; exact hl
      subst this
      exact ⟨_, _, rfl, e0, by simpa using x.mono e, Nat.le_refl _⟩
    · rw [if_neg h0', h3]
      simp only
      rw [if_pos ⟨by rw [x.1]; omega, hb'⟩]
      refine ⟨_, _, rfl, ?_, ?_, by rw [newBlk_len]; simp⟩
      · exact (e0.set hi .dead).trans (.new _ _)
      · have hcut : (cs.drop 0).take (n * s) = cs := by rw [← x.1]; simp
        rw [hcut]
        have := own_new (h1.set i .dead) (s := s) (n := n + m) hlen
        have h4 := this.old (h0 := h0) (by simpa using e0.len)
        rw [List.length_set] at h4
        exact h4

/-- A cell of what a function has made is written. -/
theorem Own.store (x : Own h0 h 1 n cs v) {h1 : Heap} (e0 : Ext h0 h1) (e : Ext h h1) {j : Nat} (hj : j < n) {u : Value} (hu : u.oneCell' = true) : ∃ h', writeV h1 none (ptrAt v j) u = some h' ∧ Ext h0 h' ∧ Own h0 h' 1 n (cs.set j u) v ∧ h'.length = h1.length := by
  rcases x.2 with ⟨rfl, rfl⟩ | ⟨i, hi, rfl, h2⟩
  · omega
  · have h3 := e.get h2
    simp only [ptrAt, writeV, hu, if_true, write1, h3]
    rw [if_pos (by rw [x.1]; omega)]
    refine ⟨_, rfl, e0.set hi _, ⟨by simpa using x.1, .inr ⟨i, hi, rfl, ?_⟩⟩, by simp⟩
    rw [List.getElem?_set_self (get_lt h3)]
    simp

/-- Cells are copied into what a function has made. -/
theorem Own.copy (x : Own h0 h s n cs v) (e0 : Ext h0 h) {m : Nat} {new : List Value} {u : Value} (hs : srcCells h s u = some new) (hm : Go.Wb.srcLen u = m) (hl : new.length = m * s) :
    ∃ h', aCopy h s v u = some (.int .i64 (Nat.min m n : Nat), h') ∧ Ext h0 h' ∧ Own h0 h' s n (new.take (Nat.min m n * s) ++ cs.drop (Nat.min m n * s)) v ∧ h'.length = h.length ∨ v = .slice none 0 0 := by
  rcases x.2 with ⟨rfl, rfl⟩ | ⟨i, hi, rfl, h2⟩
  · exact ⟨h, .inr rfl⟩
  · have h1 : Nat.min m n ≤ n := Nat.min_le_right _ _
    have h1' : Nat.min m n ≤ m := Nat.min_le_left _ _
    have hle : Nat.min m n * s ≤ n * s := Nat.mul_le_mul_right s h1
    have hle' : Nat.min m n * s ≤ m * s := Nat.mul_le_mul_right s h1'
    unfold aCopy
    simp only [if_true, hs, hm]
    generalize Nat.min m n = q at *
    by_cases h0' : q = 0
    · subst h0'
      rw [if_pos rfl]
      exact ⟨h, .inl ⟨rfl, e0, by simpa using x, rfl⟩⟩
    · rw [if_neg h0']
      simp only [writeN, h2]
      rw [if_pos (by rw [List.length_take, x.1, hl]; omega)]
      refine ⟨_, .inl ⟨rfl, e0.set hi _, ⟨?_, .inr ⟨i, hi, rfl, ?_⟩⟩, by simp⟩⟩
      · rw [List.length_append, List.length_take, List.length_drop, x.1, hl]; omega
      · rw [List.getElem?_set_self (get_lt h2)]
        have : (new.take (q * s)).length = q * s := by rw [List.length_take, hl]; omega
        rw [this]
        simp
end

/-! ### Bytes -/
theorem bytesV_len (b : List Nat) : (bytesV b).length = b.length := by simp [bytesV]
theorem bytesV_get {b : List Nat} {j : Nat} (hj : j < b.length) : (bytesV b)[j]? = some (.int .u8 (b.getD j 0 : Nat)) := by
  simp [bytesV, List.getElem?_eq_getElem hj, List.getD]
theorem bytesV_append (a b : List Nat) : bytesV (a ++ b) = bytesV a ++ bytesV b := by simp [bytesV]
theorem bytesV_take (b : List Nat) (n : Nat) : bytesV (b.take n) = (bytesV b).take n := by simp [bytesV, List.map_take]
theorem bytesV_drop (b : List Nat) (n : Nat) : bytesV (b.drop n) = (bytesV b).drop n := by simp [bytesV, List.map_drop]
theorem bytesV_set (b : List Nat) (n x : Nat) : bytesV (b.set n x) = (bytesV b).set n (.int .u8 (x : Nat)) := by simp [bytesV, List.map_set]

/-- Bytes that can be read, and bytes that a function has made. -/
def SlB (h : Heap) (b : List Nat) (v : Value) : Prop := Sl h 1 b.length (bytesV b) v
def OwnB (h0 h : Heap) (b : List Nat) (v : Value) : Prop := Own h0 h 1 b.length (bytesV b) v

section
variable {h0 h h' : Heap} {b : List Nat} {v : Value}
theorem BytesAt.sl (x : BytesAt h b v) : SlB h b v := by
  refine ⟨by rw [bytesV_len]; omega, ?_⟩
  rcases x with ⟨rfl, rfl⟩ | ⟨i, ro, rfl, h1⟩
  · exact .inl ⟨rfl, rfl⟩
  · refine .inr ⟨i, 0, rfl, .inr ⟨ro, _, h1, by rw [bytesV_len]; omega, ?_⟩⟩
    rw [List.drop_zero, Nat.mul_one, ← bytesV_len b, List.take_length]
theorem SlB.len (x : SlB h b v) : aLen v = some (.int .i64 b.length) := Sl.len x
theorem SlB.idx (x : SlB h b v) {k : IntKind} {j : Int} (h1 : 0 ≤ j) (h2 : j < b.length) : aIdx 1 v (.int k j) = some (ptrAt v j.toNat) := Sl.idx x h1 h2
theorem SlB.read (x : SlB h b v) {j : Nat} (hj : j < b.length) : readV h none (ptrAt v j) = some (.int .u8 (b.getD j 0 : Nat)) := by rw [Sl.read x hj, bytesV_get hj]
theorem SlB.mono (x : SlB h b v) (e : Ext h h') : SlB h' b v := Sl.mono x e
theorem OwnB.mono (x : OwnB h0 h b v) (e : Ext h h') : OwnB h0 h' b v := Own.mono x e
theorem OwnB.sl (x : OwnB h0 h b v) : SlB h b v := Own.sl x
theorem SlB.sub (x : SlB h b v) {lo hi : Nat} (h1 : lo ≤ hi) (h2 : hi ≤ b.length) : SlB h ((b.drop lo).take (hi - lo)) (subAt v lo hi) := by
  have := Sl.sub x h1 h2
  have hl : ((b.drop lo).take (hi - lo)).length = hi - lo := by rw [List.length_take, List.length_drop]; omega
  unfold SlB
  rw [hl, bytesV_take, bytesV_drop]
  simpa using this
theorem SlB.src (x : SlB h b v) : srcCells h 1 v = some (bytesV b) := Sl.src x
theorem SlB.srcLen (x : SlB h b v) : srcLen v = b.length := Sl.srcLen x
theorem SlB.nil : SlB h [] (.slice none 0 0) := Sl.nil
theorem OwnB.nil : OwnB h0 h [] (.slice none 0 0) := Own.nil
end

/-- A byte put behind. -/
theorem OwnB.append {h0 h h1 : Heap} {b new : List Nat} {v u : Value} (x : OwnB h0 h b v) (e0 : Ext h0 h1) (e : Ext h h1) (hs : SlB h1 new u) (hb : b.length + new.length ≤ 140737488355328) :
    ∃ v' h', aAppend h1 1 1 v u = some (v', h') ∧ Ext h0 h' ∧ OwnB h0 h' (b ++ new) v' ∧ h1.length ≤ h'.length := by
  obtain ⟨v', h', q1, q2, q3, q4⟩ := Own.append x e0 e hs.src hs.srcLen (by rw [bytesV_len]; omega) (bytes := 1) (by omega)
  refine ⟨v', h', q1, q2, ?_, q4⟩
  unfold OwnB
  rw [List.length_append, bytesV_append]
  exact q3

theorem OwnB.store {h0 h h1 : Heap} {b : List Nat} {v : Value} (x : OwnB h0 h b v) (e0 : Ext h0 h1) (e : Ext h h1) {j : Nat} (hj : j < b.length) (u : Nat) : ∃ h', writeV h1 none (ptrAt v j) (.int .u8 (u : Nat)) = some h' ∧ Ext h0 h' ∧ OwnB h0 h' (b.set j u) v ∧ h'.length = h1.length := by
  obtain ⟨h', q1, q2, q3, q4⟩ := Own.store x e0 e hj (u := .int .u8 (u : Nat)) rfl
  refine ⟨h', q1, q2, ?_, q4⟩
  unfold OwnB
  rw [List.length_set, bytesV_set]
  exact q3

theorem slB_lit (h : Heap) (b : List Nat) : SlB (newBlk h (bytesV b)) b (.slice (some ⟨h.length, 0, none⟩) b.length 1) := (own_new h (s := 1) (n := b.length) (cs := bytesV b) (by rw [bytesV_len]; omega)).sl

theorem set_new (h : Heap) (x y : Blk) : (h ++ [x]).set h.length y = h ++ [y] := by
  rw [List.set_append_right _ _ (Nat.le_refl _)]
  simp

/-- A copy into a new slice. -/
theorem copy_new {h : Heap} {cells : List Value} {n : Nat} (hl : cells.length = n) {b : List Nat} {u : Value} (hu : SlB (newBlk h cells) b u) :
    aCopy (newBlk h cells) 1 (.slice (some ⟨h.length, 0, none⟩) n 1) u = some (.int .i64 (Nat.min b.length n : Nat), newBlk h (bytesV (b.take (Nat.min b.length n)) ++ cells.drop (Nat.min b.length n))) := by
  have h1 : Nat.min b.length n ≤ n := Nat.min_le_right _ _
  have h1' : Nat.min b.length n ≤ b.length := Nat.min_le_left _ _
  unfold aCopy
  simp only [if_true, hu.src, hu.srcLen]
  generalize Nat.min b.length n = q at *
  by_cases h0 : q = 0
  · subst h0
    simp [bytesV]
  · rw [if_neg h0]
    simp only [writeN, newBlk_get]
    rw [if_pos (by rw [List.length_take, bytesV_len]; omega)]
    simp only [Option.map_some, newBlk, set_new, Nat.mul_one, ← bytesV_take, bytesV_len, List.length_take, Nat.min_eq_left h1', Nat.zero_add, List.take_zero, List.nil_append]

/-- The number of some bytes. -/
def num (l : List Nat) : Nat := l.foldl (fun n c => n * 256 + c) 0

theorem num_snoc (l : List Nat) (x : Nat) : num (l ++ [x]) = num l * 256 + x := by simp [num]

theorem num_lt_aux : ∀ (l : List Nat) (a : Nat), (∀ x ∈ l, x < 256) → l.foldl (fun n c => n * 256 + c) a < (a + 1) * 256 ^ l.length
  | [], a, _ => by simp
  | c :: l, a, h => by
    have h1 := num_lt_aux l (a * 256 + c) (fun x hx => h x (by simp [hx]))
    have h2 := h c (by simp)
    rw [List.foldl_cons, List.length_cons, Nat.pow_succ, Nat.mul_comm (256 ^ l.length), ← Nat.mul_assoc]
    refine Nat.lt_of_lt_of_le h1 (Nat.mul_le_mul_right _ (by omega))

theorem num_lt (l : List Nat) (h : ∀ x ∈ l, x < 256) : num l < 256 ^ l.length := by
  have := num_lt_aux l 0 h
  simpa [num] using this

theorem take_succ_getD {b : List Nat} {k : Nat} (h : k < b.length) : b.take (k + 1) = b.take k ++ [b.getD k 0] := by
  rw [List.take_add_one, List.getElem?_eq_getElem h]
  simp [List.getD, h]

theorem getD_mem {b : List Nat} {k : Nat} (h : k < b.length) : b.getD k 0 ∈ b := by
  simp [List.getD, h]

theorem getD_sub {b : List Nat} {o n k : Nat} (h : k < n) : ((b.drop o).take n).getD k 0 = b.getD (o + k) 0 := by
  simp [List.getD, h, List.getElem?_drop]

/-- A slice of slices of bytes. -/
def SlBs (h : Heap) (bs : List (List Nat)) (v : Value) : Prop := ∃ vs : List Value, vs.length = bs.length ∧ Sl h 1 bs.length vs v ∧ ∀ i, i < bs.length → SlB h (bs.getD i []) (vs.getD i undef)

section
variable {h h' : Heap} {bs : List (List Nat)} {v : Value}
theorem SlBs.mono (x : SlBs h bs v) (e : Ext h h') : SlBs h' bs v := by
  obtain ⟨vs, h1, h2, h3⟩ := x
  exact ⟨vs, h1, h2.mono e, fun i hi => (h3 i hi).mono e⟩
theorem SlBs.len (x : SlBs h bs v) : aLen v = some (.int .i64 bs.length) := by
  obtain ⟨vs, h1, h2, h3⟩ := x
  exact h2.len
theorem SlBs.idx (x : SlBs h bs v) {k : IntKind} {j : Int} (h1 : 0 ≤ j) (h2 : j < bs.length) : aIdx 1 v (.int k j) = some (ptrAt v j.toNat) := by
  obtain ⟨vs, _, q, _⟩ := x
  exact q.idx h1 h2
theorem SlBs.read (x : SlBs h bs v) {j : Nat} (hj : j < bs.length) : ∃ u, readV h none (ptrAt v j) = some u ∧ SlB h (bs.getD j []) u := by
  obtain ⟨vs, h1, h2, h3⟩ := x
  refine ⟨vs.getD j undef, ?_, h3 j hj⟩
  rw [h2.read hj, List.getElem?_eq_getElem (by omega)]
  rw [List.getD_eq_getElem?_getD, List.getElem?_eq_getElem (by omega)]
  rfl
end

theorem drop_getD {b : List Nat} {k : Nat} (h : k < b.length) : b.drop k = b.getD k 0 :: b.drop (k + 1) := by
  rw [List.drop_eq_getElem_cons h]
  simp [List.getD, h]

theorem slB_one (h : Heap) (c : Nat) : SlB (newBlk h [.int .u8 (c : Nat)]) [c] (.slice (some ⟨h.length, 0, none⟩) 1 1) := slB_lit h [c]

attribute [simp] fillL newBlk_len

@[simp] theorem readV_one {h : Heap} {b o : Nat} : readV h none (.pointer (some ⟨b, o, none⟩)) = read1 h b o := rfl
@[simp] theorem readV_many {h : Heap} {b o n : Nat} : readV h (some n) (.pointer (some ⟨b, o, none⟩)) = (readN h b o n).map fun cs => .agg cs.toArray := rfl
theorem read1_of {h : Heap} {b o : Nat} {ro : Bool} {cs : List Value} (hb : h[b]? = some (.mem ro cs)) : read1 h b o = cs[o]? := by simp only [read1, hb]
theorem readN_of {h : Heap} {b o n : Nat} {ro : Bool} {cs : List Value} (hb : h[b]? = some (.mem ro cs)) (hn : o + n ≤ cs.length) : readN h b o n = some ((cs.drop o).take n) := by simp only [readN, hb, hn, if_true]
@[simp] theorem read1_new {h : Heap} {cs : List Value} {o : Nat} : read1 (newBlk h cs) h.length o = cellAt cs o := read1_of (newBlk_get h cs)
theorem readN_new {h : Heap} {cs : List Value} {o n : Nat} (hn : o + n ≤ cs.length) : readN (newBlk h cs) h.length o n = some ((cs.drop o).take n) := readN_of (newBlk_get h cs) hn
@[simp] theorem readN_new_all {h : Heap} {cs : List Value} {n : Nat} : readN (newBlk h cs) h.length 0 n = if n ≤ cs.length then some (cs.take n) else none := by
  simp only [readN, newBlk_get]
  simp
theorem read1_ext {h h' : Heap} {cs : List Value} {o : Nat} (x : Ext (newBlk h cs) h') : read1 h' h.length o = cellAt cs o := read1_of (x.get (newBlk_get h cs))
theorem readN_ext {h h' : Heap} {cs : List Value} {o n : Nat} (x : Ext (newBlk h cs) h') (hn : o + n ≤ cs.length) : readN h' h.length o n = some ((cs.drop o).take n) := readN_of (x.get (newBlk_get h cs)) hn

@[simp] theorem valCells_int (k : IntKind) (x : Int) : valCells (.int k x) = [.int k x] := rfl
@[simp] theorem valCells_bool (b : Bool) : valCells (.bool b) = [.bool b] := rfl
@[simp] theorem valCells_string (s : ByteArray) : valCells (.string s) = [.string s] := rfl
@[simp] theorem valCells_slice (p : Option Addr) (n m : Nat) : valCells (.slice p n m) = [.slice p n m] := rfl
@[simp] theorem valCells_pointer (p : Option Addr) : valCells (.pointer p) = [.pointer p] := rfl
@[simp] theorem valCells_agg (c : Array Value) : valCells (.agg c) = c.toList := rfl
@[simp] theorem valCells_func (fn : Fn) (f c : Array Value) : valCells (.func fn f c) = [.func fn f c] := rfl
@[simp] theorem isTuple_int (k : IntKind) (x : Int) : isTuple (.int k x) = false := rfl
@[simp] theorem isTuple_bool (b : Bool) : isTuple (.bool b) = false := rfl
@[simp] theorem isTuple_string (s : ByteArray) : isTuple (.string s) = false := rfl
@[simp] theorem isTuple_slice (p : Option Addr) (n m : Nat) : isTuple (.slice p n m) = false := rfl
@[simp] theorem isTuple_pointer (p : Option Addr) : isTuple (.pointer p) = false := rfl
@[simp] theorem isTuple_agg (c : Array Value) : isTuple (.agg c) = false := rfl
@[simp] theorem isTuple_func (fn : Fn) (f c : Array Value) : isTuple (.func fn f c) = false := rfl

theorem Sl.cells {h : Heap} {s n : Nat} {cs : List Value} {v : Value} (x : Sl h s n cs v) : valCells v = [v] ∧ isTuple v = false ∧ v.oneCell' = true := by
  rcases x.2 with ⟨rfl, rfl⟩ | ⟨i, o, rfl, _⟩ <;> exact ⟨rfl, rfl, rfl⟩
theorem SlB.cells {h : Heap} {b : List Nat} {v : Value} (x : SlB h b v) : valCells v = [v] ∧ isTuple v = false ∧ v.oneCell' = true := Sl.cells x

/-- A new slice of slices of bytes: of one, two, .. -/
theorem slBs_one {h : Heap} {b : List Nat} {u : Value} (x : SlB h b u) : SlBs (newBlk h [u]) [b] (.slice (some ⟨h.length, 0, none⟩) 1 1) := by
  refine ⟨[u], rfl, (own_new h (s := 1) (n := 1) (cs := [u]) rfl).sl, fun i hi => ?_⟩
  have : i = 0 := by simpa using hi
  subst this
  exact x.mono (.new _ _)

theorem OwnB.set {h0 h : Heap} {b : List Nat} {v : Value} (x : OwnB h0 h b v) {p : Nat} (hp : p < h0.length) (y : Blk) : OwnB h0 (h.set p y) b v := by
  refine ⟨x.1, ?_⟩
  rcases x.2 with z | ⟨i, h1, h2, h3⟩
  · exact .inl z
  · exact .inr ⟨i, h1, h2, by rw [List.getElem?_set_ne (by omega)]; exact h3⟩

end Go.Wb

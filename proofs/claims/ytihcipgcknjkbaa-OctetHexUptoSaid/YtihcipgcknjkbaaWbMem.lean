/- Reading, making and writing blocks: the abstract heap's steps are steps of the model's memory. -/
import Derived.Test.YtihcipgcknjkbaaWbOp
namespace Go.Wb
open Go

theorem getD_eq {l : List Value} {i : Nat} {v : Value} (h : l[i]? = some v) : l.getD i undef = v := by simp [List.getD, h]

theorem crel_get {ι : Inj} {n : Nat} {l l' : List Value} (h : CRel ι n l l') {i : Nat} {v : Value} (hv : l[i]? = some v) : ∃ v', l'[i]? = some v' ∧ VRel ι n v v' := by
  have hi : i < l.length := by
    rcases Nat.lt_or_ge i l.length with h1 | h1
    · exact h1
    · simp [List.getElem?_eq_none h1] at hv
  have hi' : i < l'.length := h.1 ▸ hi
  refine ⟨l'[i], List.getElem?_eq_getElem hi', ?_⟩
  have := h.2 i
  rwa [getD_eq hv, getD_eq (List.getElem?_eq_getElem hi')] at this

theorem crel_of {ι : Inj} {n : Nat} {l l' : List Value} (hl : l.length = l'.length) (h : ∀ i (h1 : i < l.length) (h2 : i < l'.length), VRel ι n l[i] l'[i]) : CRel ι n l l' := by
  refine ⟨hl, fun i => ?_⟩
  rcases Nat.lt_or_ge i l.length with h1 | h1
  · have h2 : i < l'.length := hl ▸ h1
    rw [getD_eq (List.getElem?_eq_getElem h1), getD_eq (List.getElem?_eq_getElem h2)]
    exact h i h1 h2
  · have e1 : l.getD i undef = undef := by simp [List.getD, List.getElem?_eq_none h1]
    have e2 : l'.getD i undef = undef := by simp [List.getD, List.getElem?_eq_none (hl ▸ h1)]
    rw [e1, e2]
    exact .undef

theorem crel_append {ι : Inj} {n : Nat} {l l' m m' : List Value} (h : CRel ι n l l') (g : CRel ι n m m') : CRel ι n (l ++ m) (l' ++ m') := by
  refine crel_of (by simp [h.1, g.1]) fun i h1 h2 => ?_
  rcases Nat.lt_or_ge i l.length with h3 | h3
  · have h4 : i < l'.length := h.1 ▸ h3
    rw [List.getElem_append_left h3, List.getElem_append_left h4]
    have := h.2 i
    rwa [getD_eq (List.getElem?_eq_getElem h3), getD_eq (List.getElem?_eq_getElem h4)] at this
  · have h4 : l'.length ≤ i := h.1 ▸ h3
    rw [List.getElem_append_right h3, List.getElem_append_right h4]
    have := g.2 (i - l.length)
    have e : i - l.length = i - l'.length := by rw [h.1]
    have h5 : i - l.length < m.length := by simp at h1; omega
    have h6 : i - l'.length < m'.length := by simp at h2; omega
    rw [getD_eq (List.getElem?_eq_getElem h5)] at this
    have h7 : m'.getD (i - l.length) undef = m'[i - l'.length] := by rw [e]; exact getD_eq (List.getElem?_eq_getElem h6)
    rwa [h7] at this

theorem crel_take {ι : Inj} {n : Nat} {l l' : List Value} (h : CRel ι n l l') (k : Nat) : CRel ι n (l.take k) (l'.take k) := by
  refine crel_of (by simp [h.1]) fun i h1 h2 => ?_
  simp only [List.getElem_take]
  have h3 : i < l.length := by simp at h1; omega
  have h4 : i < l'.length := by simp at h2; omega
  have := h.2 i
  rwa [getD_eq (List.getElem?_eq_getElem h3), getD_eq (List.getElem?_eq_getElem h4)] at this

theorem crel_drop {ι : Inj} {n : Nat} {l l' : List Value} (h : CRel ι n l l') (k : Nat) : CRel ι n (l.drop k) (l'.drop k) := by
  refine crel_of (by simp [h.1]) fun i h1 h2 => ?_
  simp only [List.getElem_drop]
  have h3 : k + i < l.length := by simp at h1; omega
  have h4 : k + i < l'.length := by simp at h2; omega
  have := h.2 (k + i)
  rwa [getD_eq (List.getElem?_eq_getElem h3), getD_eq (List.getElem?_eq_getElem h4)] at this

theorem crel_agg {ι : Inj} {n : Nat} {c c' : Array Value} (hs : c.size = c'.size) (h : ∀ i, VRel ι n (c.getD i undef) (c'.getD i undef)) : CRel ι n c.toList c'.toList := by
  refine ⟨by simpa using hs, fun i => ?_⟩
  have := h i
  simpa [Array.getD_eq_getD_getElem?, List.getD] using this

theorem agg_crel {ι : Inj} {n : Nat} {l l' : List Value} (h : CRel ι n l l') (h1 : ∀ v ∈ l', v.oneCell' = true) : VRel ι n (.agg l.toArray) (.agg l'.toArray) := by
  refine .agg _ _ (by simpa using h.1) (fun i => ?_) (by simpa using h1)
  have := h.2 i
  simpa [Array.getD_eq_getD_getElem?, List.getD] using this

/-! ### Inversion -/
section
variable {ι : Inj} {n : Nat} {v' : Value}
theorem VRel.int_inv {k : IntKind} {x : Int} (h : VRel ι n (.int k x) v') : v' = .int k x := by cases h; rfl
theorem VRel.bool_inv {b : Bool} (h : VRel ι n (.bool b) v') : v' = .bool b := by cases h; rfl
theorem VRel.string_inv {s : ByteArray} (h : VRel ι n (.string s) v') : v' = .string s := by cases h; rfl
theorem VRel.ptr_inv {b o : Nat} (h : VRel ι n (.pointer (some ⟨b, o, none⟩)) v') : b < n ∧ v' = .pointer (some ⟨(ι b).blk, (ι b).off + o, none⟩) := by
  cases h with
  | ptr _ _ h => exact ⟨h, rfl⟩
theorem VRel.slice_inv {b o len s : Nat} (h : VRel ι n (.slice (some ⟨b, o, none⟩) len s) v') :
    b < n ∧ ∃ a cap, v' = .slice (some a) len cap ∧ len ≤ cap ∧ (0 < cap → ∃ o', a = ⟨(ι b).blk, o', none⟩ ∧ (0 < len → o' = (ι b).off + o) ∧ o' + cap * s ≤ (ι b).size) := by
  cases h with
  | slice _ _ _ _ a cap h hl hc => exact ⟨h, a, cap, rfl, hl, hc⟩
theorem VRel.nilSlice_inv {len s : Nat} (h : VRel ι n (.slice none len s) v') : len = 0 ∧ s = 0 ∧ v' = .slice none 0 0 := by
  cases h; exact ⟨rfl, rfl, rfl⟩
theorem VRel.agg_inv {c : Array Value} (h : VRel ι n (.agg c) v') : ∃ c', v' = .agg c' ∧ CRel ι n c.toList c'.toList ∧ ∀ v ∈ c', v.oneCell' = true := by
  cases h with
  | agg _ c' hs h h1 => exact ⟨c', rfl, crel_agg hs h, h1⟩
theorem VRel.tuple_inv {c : Array Value} (h : VRel ι n (.tuple c) v') : ∃ c', v' = .tuple c' ∧ CRel ι n c.toList c'.toList := by
  cases h with
  | tuple0 => exact ⟨#[], rfl, rfl, fun i => by simpa using VRel.undef⟩
  | tuple _ c' hs h => exact ⟨c', rfl, crel_agg hs h⟩
theorem VRel.func_inv {fn : Fn} {f c : Array Value} (h : VRel ι n (.func fn f c) v') :
    ∃ f' c', v' = .func fn f' c' ∧ CRel ι n f.toList f'.toList ∧ CRel ι n c.toList c'.toList := by
  cases h with
  | func _ _ _ f' c' hf hc h1 h2 => exact ⟨f', c', rfl, crel_agg hf h1, crel_agg hc h2⟩
end

theorem VRel.oneCell {ι : Inj} {n : Nat} {v v' : Value} (h : VRel ι n v v') (h1 : v.oneCell' = true) : v'.oneCell' = true := by
  cases h <;> first | rfl | (simp [Value.oneCell'] at h1)

theorem VRel.isAgg {ι : Inj} {n : Nat} {v v' : Value} (h : VRel ι n v v') : CRel ι n (valCells v) (valCells v') := by
  have one : ∀ u u' : Value, VRel ι n u u' → CRel ι n [u] [u'] := fun u u' hu => crel_of rfl fun i h1 h2 => by
    have : i = 0 := by simp at h1; omega
    subst this; exact hu
  cases h with
  | agg c c' hs h h1 => exact crel_agg hs h
  | bool b => exact one _ _ (.bool b)
  | int k x => exact one _ _ (.int k x)
  | string s => exact one _ _ (.string s)
  | nilPtr => exact one _ _ .nilPtr
  | ptr b o h => exact one _ _ (.ptr b o h)
  | nilSlice => exact one _ _ .nilSlice
  | slice b o len s a cap h hl hc => exact one _ _ (.slice b o len s a cap h hl hc)
  | nilFunc => exact one _ _ .nilFunc
  | func fn f c f' c' hf hc h1 h2 => exact one _ _ (.func fn f c f' c' hf hc h1 h2)
  | nilIface => exact one _ _ .nilIface
  | nilMap => exact one _ _ .nilMap
  | iface t v v' h => exact one _ _ (.iface t v v' h)
  | tuple0 => exact one _ _ .tuple0
  | tuple c c' hs h => exact one _ _ (.tuple c c' hs h)

theorem valCells_eq (v : Value) : valCells v = v.cells.toList := by cases v <;> rfl

/-! ### Reading -/
theorem rel_read {ι : Inj} {h : Heap} {w : World} (hr : Rel ι h w) {b : Nat} {ro : Bool} {cs : List Value} (hb : h[b]? = some (.mem ro cs)) {i : Nat} {v : Value} (hi : cs[i]? = some v) :
    ∃ v', w.cell? ⟨(ι b).blk, (ι b).off + i, none⟩ = some v' ∧ VRel ι h.length v v' ∧ v'.oneCell' = true := by
  have hlt : i < cs.length := by
    rcases Nat.lt_or_ge i cs.length with h1 | h1
    · exact h1
    · simp [List.getElem?_eq_none h1] at hi
  obtain ⟨v', h1, h2, h3⟩ := hr.cell b ro cs hb i hlt
  rw [getD_eq hi] at h2
  exact ⟨v', h1, h2, h3⟩

theorem addr_add (b o n : Nat) : (⟨b, o, none⟩ : Addr).add n = ⟨b, o + n, none⟩ := Addr.add_lit b o n

theorem rel_cells {ι : Inj} {h : Heap} {w : World} (hr : Rel ι h w) {b o n : Nat} {vs : List Value} (hb : readN h b o n = some vs) :
    vs.length = n ∧ ∃ vs', CRel ι h.length vs vs' ∧ (∀ v ∈ vs', v.oneCell' = true) ∧ ∀ j, j < n → w.cell? ⟨(ι b).blk, (ι b).off + o + j, none⟩ = some (vs'.getD j undef) := by
  unfold readN at hb
  split at hb
  · rename_i ro cs hcs
    split at hb
    · rename_i hle
      injection hb with hb
      subst hb
      have hlen : ((cs.drop o).take n).length = n := by simp; omega
      refine ⟨hlen, ?_⟩
      have hex : ∀ j, j < n → ∃ v', w.cell? ⟨(ι b).blk, (ι b).off + (o + j), none⟩ = some v' ∧ VRel ι h.length (cs.getD (o + j) undef) v' ∧ v'.oneCell' = true := fun j hj => hr.cell b ro cs hcs (o + j) (by omega)
      let f : Nat → Value := fun j => if hj : j < n then Classical.choose (hex j hj) else undef
      have hf : ∀ j, j < n → w.cell? ⟨(ι b).blk, (ι b).off + (o + j), none⟩ = some (f j) ∧ VRel ι h.length (cs.getD (o + j) undef) (f j) ∧ (f j).oneCell' = true := fun j hj => by
        have := Classical.choose_spec (hex j hj)
        simp only [f, hj, dif_pos]
        exact this
      refine ⟨(List.range n).map f, ?_, ?_, fun j hj => ?_⟩
      · refine crel_of (by simp; omega) fun i h1 h2 => ?_
        have hi : i < n := by omega
        have := (hf i hi).2.1
        have hc : o + i < cs.length := by omega
        rw [getD_eq (List.getElem?_eq_getElem hc)] at this
        simpa using this
      · intro v hv
        obtain ⟨j, hj, rfl⟩ := List.mem_map.1 hv
        exact (hf j (List.mem_range.1 hj)).2.2
      · rw [Nat.add_assoc, (hf j hj).1, getD_eq (v := f j) (by simp [hj])]
    · cases hb
  · cases hb

theorem run_loadPrefix {P : Program} {w : World} {B o n m : Nat} {vs : List Value} (hl : vs.length = n) (hm : m ≤ n) (h : ∀ j, j < n → w.cell? ⟨B, o + j, none⟩ = some (vs.getD j undef)) :
    (loadCells ⟨B, o, none⟩ m).run P w = .ok (vs.take m).toArray w := by
  rw [run_loadCells w _ m (fun j => vs.getD j undef) fun j hj => by rw [addr_add]; exact h j (by omega)]
  congr 2
  apply List.ext_getElem (by simp; omega)
  intro j h1 h2
  have : j < vs.length := by simp at h1; omega
  simp [List.getD, this]

theorem rel_readN {P : Program} {ι : Inj} {h : Heap} {w : World} (hr : Rel ι h w) {b o n : Nat} {vs : List Value} (hb : readN h b o n = some vs) :
    vs.length = n ∧ ∃ vs', (loadCells ⟨(ι b).blk, (ι b).off + o, none⟩ n).run P w = .ok vs'.toArray w ∧ CRel ι h.length vs vs' ∧ ∀ v ∈ vs', v.oneCell' = true := by
  obtain ⟨hl, vs', hc, h1, hj⟩ := rel_cells hr hb
  refine ⟨hl, vs', ?_, hc, h1⟩
  have hl' : vs'.length = n := by rw [← hc.1, hl]
  rw [run_loadPrefix hl' (Nat.le_refl n) hj, ← hl', List.take_length]

/-! ### A new block -/
def Inj.set (ι : Inj) (b : Nat) (p : Pos) : Inj := fun i => if i = b then p else ι i

theorem Inj.set_other {ι : Inj} {b : Nat} {p : Pos} {i : Nat} (h : i ≠ b) : ι.set b p i = ι i := by simp [Inj.set, h]
theorem Inj.set_same {ι : Inj} {b : Nat} {p : Pos} : ι.set b p b = p := by simp [Inj.set]

theorem get_new (h : Heap) (cs : List Value) (b : Nat) : (newBlk h cs)[b]? = if b < h.length then h[b]? else if b = h.length then some (.mem false cs) else none := by
  unfold newBlk
  rw [List.getElem?_append]
  split
  · rfl
  · split
    · subst_vars; simp
    · rw [List.getElem?_eq_none]; simp; omega

theorem length_new (h : Heap) (cs : List Value) : (newBlk h cs).length = h.length + 1 := by simp [newBlk]

theorem get_lt {h : Heap} {b : Nat} {x : Blk} (hb : h[b]? = some x) : b < h.length := by
  rcases Nat.lt_or_ge b h.length with h1 | h1
  · exact h1
  · simp [List.getElem?_eq_none h1] at hb

theorem own_lt {ι : Inj} {h : Heap} {w : World} (hr : Rel ι h w) {B : Nat} (ho : Owned ι h B) : B < w.heap.size := by
  obtain ⟨b, cs, hb, rfl⟩ := ho
  obtain ⟨c, e, lo, hi, hw, _⟩ := hr.own b cs hb
  rcases Nat.lt_or_ge (ι b).blk w.heap.size with h1 | h1
  · exact h1
  · simp [Array.getElem?_eq_none h1] at hw

theorem step_new {ι : Inj} {h : Heap} {w : World} (hr : Rel ι h w) (cs : List Value) (c : Array Value) (e : TypeId) (lo hi d : Nat) (hl : cs.length ≤ c.size)
    (hc : ∀ i (h1 : i < cs.length) (h2 : i < c.size), VRel ι h.length cs[i] c[i] ∧ c[i].oneCell' = true) (hf : ∀ o, o < c.size → ¬ (lo ≤ o ∧ o < hi)) :
    Step ι h w (ι.set h.length ⟨w.heap.size, 0, c.size⟩) (newBlk h cs) { w with heap := w.heap.push (.cells c e (lo, hi)), drawn := d } := by
  have hold : ∀ b, b < h.length → ι.set h.length ⟨w.heap.size, 0, c.size⟩ b = ι b := fun b hb => Inj.set_other (by omega)
  have hpush : ∀ B, B < w.heap.size → (w.heap.push (.cells c e (lo, hi)))[B]? = w.heap[B]? := fun B hB => by
    rw [Array.getElem?_push]; simp; omega
  have hcell : ∀ (a : Addr), a.block < w.heap.size → World.cell? { w with heap := w.heap.push (.cells c e (lo, hi)), drawn := d } a = w.cell? a := fun a ha => by
    simp only [World.cell?, hpush _ ha]
  constructor
  · rw [length_new]; omega
  · intro b hb
    refine Inj.set_other ?_
    rw [length_new] at hb
    omega
  · constructor
    · intro b ro cs' hb i hi
      rw [get_new] at hb
      split at hb
      · rename_i hlt
        obtain ⟨v', h1, h2, h3⟩ := hr.cell b ro cs' hb i hi
        refine ⟨v', ?_, h2.mono (fun x hx => hold x hx) (by rw [length_new]; omega), h3⟩
        rw [hold b hlt, hcell _ (hr.inside b ro cs' hb (.inr (by rintro rfl; simp at hi)))]
        exact h1
      · split at hb
        · rename_i heq
          injection hb with hb
          injection hb with hb1 hb2
          subst hb2
          subst heq
          rw [Inj.set_same]
          have h2 : i < c.size := by omega
          refine ⟨c[i], ?_, ?_, (hc i hi h2).2⟩
          · simp [World.cell?, h2]
          · rw [getD_eq (List.getElem?_eq_getElem hi)]
            exact (hc i hi h2).1.mono (fun x hx => hold x hx) (by rw [length_new]; omega)
        · cases hb
    · intro b ro cs' hb hne
      simp only [Array.size_push]
      rw [get_new] at hb
      split at hb
      · rename_i hlt
        rw [hold b hlt]
        exact Nat.lt_succ_of_lt (hr.inside b ro cs' hb hne)
      · split at hb
        · rename_i heq
          subst heq
          rw [Inj.set_same]
          exact Nat.lt_succ_self _
        · cases hb
    · intro b ro cs' hb
      rw [get_new] at hb
      split at hb
      · rename_i hlt
        rw [hold b hlt]
        exact hr.fits b ro cs' hb
      · split at hb
        · rename_i heq
          injection hb with hb
          injection hb with hb1 hb2
          subst hb2
          subst heq
          rw [Inj.set_same]
          simpa using hl
        · cases hb
    · intro b cs' hb
      rw [get_new] at hb
      split at hb
      · rename_i hlt
        rw [hold b hlt]
        obtain ⟨c', e', lo', hi', h1, h2, h3⟩ := hr.own b cs' hb
        refine ⟨c', e', lo', hi', ?_, h2, h3⟩
        rw [hpush _ (own_lt hr ⟨b, cs', hb, rfl⟩)]
        exact h1
      · split at hb
        · rename_i heq
          subst heq
          rw [Inj.set_same]
          exact ⟨c, e, lo, hi, by simp, rfl, hf⟩
        · cases hb
    · intro b b' cs₁ ro cs₂ hb hb' hne hnz
      rw [get_new] at hb hb'
      split at hb
      · rename_i hlt
        rw [hold b hlt]
        split at hb'
        · rename_i hlt'
          rw [hold b' hlt']
          exact hr.apart b b' cs₁ ro cs₂ hb hb' hne hnz
        · split at hb'
          · rename_i heq
            subst heq
            rw [Inj.set_same]
            have := own_lt hr ⟨b, cs₁, hb, rfl⟩
            simp only
            omega
          · cases hb'
      · split at hb
        · rename_i heq
          subst heq
          rw [Inj.set_same]
          split at hb'
          · rename_i hlt'
            rw [hold b' hlt']
            simp only
            have := hr.inside b' ro cs₂ hb' hnz
            omega
          · split at hb'
            · rename_i heq'
              exact absurd heq'.symm hne
            · cases hb'
        · cases hb
  · simp
  · intro B hB _
    exact hpush B hB
  · rintro B ⟨b, cs', hb, rfl⟩
    rw [get_new] at hb
    split at hb
    · rename_i hlt
      rw [hold b hlt]
      exact .inr ⟨b, cs', hb, rfl⟩
    · split at hb
      · rename_i heq
        subst heq
        rw [Inj.set_same]
        exact .inl (Nat.le_refl _)
      · cases hb
  · rfl
  · rfl
  · rfl

end Go.Wb

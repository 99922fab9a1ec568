/- Writing into blocks, giving a block up, and a block that takes the place of another one. -/
import Derived.Test.YtihcipgcknjkbaaWbMem
namespace Go.Wb
open Go

/-- The model's memory with another row in block 'B'. -/
def setBlk (w : World) (B : Nat) (o : Obj) : World := { w with heap := w.heap.setIfInBounds B o }

theorem setCell_eq {w : World} {B o : Nat} {c : Array Value} {e : TypeId} {fz : Nat × Nat} (hB : w.heap[B]? = some (.cells c e fz)) (v : Value) :
    w.setCell ⟨B, o, none⟩ v = setBlk w B (.cells (c.setIfInBounds o v) e fz) := by
  have hlt : B < w.heap.size := by
    rcases Nat.lt_or_ge B w.heap.size with h1 | h1
    · exact h1
    · simp [Array.getElem?_eq_none h1] at hB
  unfold World.setCell setBlk
  congr 1
  apply Array.ext_getElem?
  intro i
  rw [Array.getElem?_modify, Array.getElem?_setIfInBounds]
  by_cases hi : B = i
  · subst hi
    rw [if_pos rfl, hB]
    simp [hlt]
  · simp [hi]

theorem setBlk_get {w : World} {B : Nat} {o : Obj} (hlt : B < w.heap.size) (i : Nat) : (setBlk w B o).heap[i]? = if B = i then some o else w.heap[i]? := by
  unfold setBlk
  simp only
  rw [Array.getElem?_setIfInBounds]
  by_cases he : B = i
  · rw [if_pos he, if_pos he, if_pos hlt]
  · rw [if_neg he, if_neg he]

theorem setBlk_twice (w : World) (B : Nat) (o o' : Obj) : setBlk (setBlk w B o) B o' = setBlk w B o' := by
  unfold setBlk
  simp only
  congr 1
  apply Array.ext_getElem?
  intro i
  simp only [Array.getElem?_setIfInBounds]
  split <;> simp

theorem setBlk_self {w : World} {B : Nat} {o : Obj} (hB : w.heap[B]? = some o) : setBlk w B o = w := by
  have : w.heap.setIfInBounds B o = w.heap := by
    apply Array.ext_getElem?
    intro i
    rw [Array.getElem?_setIfInBounds]
    split
    · rename_i h
      subst h
      rw [hB]
      split
      · rfl
      · rename_i hn
        simp [Array.getElem?_eq_none (Nat.le_of_not_lt hn)] at hB
    · rfl
  unfold setBlk
  rw [this]

theorem lt_of_get {w : World} {B : Nat} {o : Obj} (hB : w.heap[B]? = some o) : B < w.heap.size := by
  rcases Nat.lt_or_ge B w.heap.size with h1 | h1
  · exact h1
  · simp [Array.getElem?_eq_none h1] at hB

theorem run_storeCells {P : Program} (B off : Nat) (e : TypeId) (lo hi : Nat) : ∀ (vs : List Value) (i : Nat) (c : Array Value) (w : World),
    w.heap[B]? = some (.cells c e (lo, hi)) → off + i + vs.length ≤ c.size → (∀ o, o < c.size → ¬ (lo ≤ o ∧ o < hi)) → (∀ v ∈ vs, v.oneCell' = true) →
    ∃ c2 : Array Value, (storeCells ⟨B, off, none⟩ vs i).run P w = .ok () (setBlk w B (.cells c2 e (lo, hi))) ∧ c2.size = c.size ∧
      ∀ j, c2[j]? = if off + i ≤ j ∧ j < off + i + vs.length then vs[j - (off + i)]? else c[j]?
  | [], i, c, w, hB, _, _, _ => ⟨c, by rw [setBlk_self hB]; rfl, rfl, fun j => by simp; omega⟩
  | v :: r, i, c, w, hB, hl, hf, h1 => by
    simp only [List.length_cons] at hl
    have hin : off + i < c.size := by omega
    have hlt := lt_of_get hB
    have hst : (store ((⟨B, off, none⟩ : Addr).add i) v).run P w = .ok () (setBlk w B (.cells (c.setIfInBounds (off + i) v) e (lo, hi))) := by
      rw [addr_add, run_store P w _ v _ (h1 v (by simp))]
      have hc : w.cell? ⟨B, off + i, none⟩ = some c[off + i] := by simp [World.cell?, hB, hin]
      have hz : w.frozen? ⟨B, off + i, none⟩ = false := by
        have := hf (off + i) hin
        simp only [World.frozen?, hB]
        simp
        omega
      simp only [hc, hz]
      rw [setCell_eq hB]
      simp
    obtain ⟨c2, hrun, hs, hj⟩ := run_storeCells (P := P) B off e lo hi r (i + 1) (c.setIfInBounds (off + i) v) (setBlk w B (.cells (c.setIfInBounds (off + i) v) e (lo, hi)))
      (by rw [setBlk_get hlt]; simp) (by simp; omega) (by simpa using hf) (fun u hu => h1 u (by simp [hu]))
    refine ⟨c2, ?_, by simpa using hs, fun j => ?_⟩
    · simp only [storeCells, Sem.run_bind, hst, Result.andThen_ok, hrun, setBlk_twice]
    · rw [hj j, Array.getElem?_setIfInBounds]
      by_cases h2 : off + i = j
      · subst h2
        rw [if_neg (by omega), if_pos rfl, if_pos hin, if_pos (by simp)]
        simp
      · by_cases h3 : off + (i + 1) ≤ j ∧ j < off + (i + 1) + r.length
        · rw [if_pos h3, if_pos (by simp; omega)]
          rw [show j - (off + i) = (j - (off + (i + 1))) + 1 by omega]
          simp
        · rw [if_neg h3, if_neg h2, if_neg (by simp; omega)]

theorem getD_set (h : Heap) (b : Nat) (x : Blk) (hb : b < h.length) (i : Nat) : (h.set b x)[i]? = if b = i then some x else h[i]? := by
  rw [List.getElem?_set]
  by_cases he : b = i
  · rw [if_pos he, if_pos he, if_pos hb]
  · rw [if_neg he, if_neg he]

theorem cell_setBlk {w : World} {B : Nat} {c2 : Array Value} {e : TypeId} {fz : Nat × Nat} (hlt : B < w.heap.size) (a : Addr) :
    (setBlk w B (.cells c2 e fz)).cell? a = if B = a.block then (if a.spot.isSome then none else c2[a.off]?) else w.cell? a := by
  unfold World.cell?
  rw [setBlk_get hlt]
  by_cases he : B = a.block
  · rw [if_pos he, if_pos he]
  · rw [if_neg he, if_neg he]

theorem step_write {ι : Inj} {h : Heap} {w : World} (hr : Rel ι h w) {b : Nat} {cs cs2 : List Value} {c c2 : Array Value} {e : TypeId} {lo hi : Nat}
    (hb : h[b]? = some (.mem false cs)) (hw : w.heap[(ι b).blk]? = some (.cells c e (lo, hi))) (hs : c2.size = c.size) (hl : cs2.length = cs.length)
    (hc : ∀ i (h1 : i < cs2.length), ∃ v', c2[(ι b).off + i]? = some v' ∧ VRel ι h.length cs2[i] v' ∧ v'.oneCell' = true) :
    Step ι h w ι (h.set b (.mem false cs2)) (setBlk w (ι b).blk (.cells c2 e (lo, hi))) := by
  have hlt := lt_of_get hw
  have hbl := get_lt hb
  have hsz : (setBlk w (ι b).blk (.cells c2 e (lo, hi))).heap.size = w.heap.size := by simp [setBlk]
  have hne : ∀ b' ro cs', b ≠ b' → h[b']? = some (Blk.mem ro cs') → (ro = false ∨ cs' ≠ []) → (ι b).blk ≠ (ι b').blk := fun b' ro cs' hn hb' hz => hr.apart b b' cs ro cs' hb hb' hn hz
  constructor
  · simp
  · exact fun _ _ => rfl
  · constructor
    · intro b' ro cs' hb' i hi'
      rw [getD_set h b _ hbl] at hb'
      rw [List.length_set]
      split at hb'
      · rename_i heq
        subst heq
        injection hb' with hb'
        injection hb' with h1 h2
        subst h2
        obtain ⟨v', h3, h4, h5⟩ := hc i hi'
        refine ⟨v', ?_, ?_, h5⟩
        · rw [cell_setBlk hlt]
          simpa using h3
        · rw [getD_eq (List.getElem?_eq_getElem hi')]
          exact h4
      · rename_i hn
        obtain ⟨v', h3, h4, h5⟩ := hr.cell b' ro cs' hb' i hi'
        refine ⟨v', ?_, h4, h5⟩
        rw [cell_setBlk hlt, if_neg (hne b' ro cs' hn hb' (.inr (by rintro rfl; simp at hi')))]
        exact h3
    · intro b' ro cs' hb' hz
      rw [hsz]
      rw [getD_set h b _ hbl] at hb'
      split at hb'
      · rename_i heq
        subst heq
        exact hlt
      · exact hr.inside b' ro cs' hb' hz
    · intro b' ro cs' hb'
      rw [getD_set h b _ hbl] at hb'
      split at hb'
      · rename_i heq
        subst heq
        injection hb' with hb'
        injection hb' with h1 h2
        subst h2
        rw [hl]
        exact hr.fits b false cs hb
      · exact hr.fits b' ro cs' hb'
    · intro b' cs' hb'
      rw [getD_set h b _ hbl] at hb'
      rw [setBlk_get hlt]
      split at hb'
      · rename_i heq
        subst heq
        obtain ⟨c', e', lo', hi', h1, h2, h3⟩ := hr.own b cs hb
        rw [hw] at h1
        injection h1 with h1
        injection h1 with a1 a2 a3
        injection a3 with a4 a5
        subst a1 a2 a4 a5
        refine ⟨c2, e, lo, hi, by simp, by omega, ?_⟩
        rw [hs]
        exact h3
      · rename_i hn
        rw [if_neg (hne b' false cs' hn hb' (.inl rfl))]
        exact hr.own b' cs' hb'
    · intro b₁ b₂ cs₁ ro cs₂ h1 h2 hn hz
      rw [getD_set h b _ hbl] at h1 h2
      have g1 : ∃ cs₁', h[b₁]? = some (.mem false cs₁') := by
        split at h1
        · rename_i heq
          subst heq
          exact ⟨cs, hb⟩
        · exact ⟨_, h1⟩
      have g2 : ∃ ro' cs₂', h[b₂]? = some (.mem ro' cs₂') ∧ (ro' = false ∨ cs₂' ≠ []) := by
        split at h2
        · rename_i heq
          subst heq
          exact ⟨_, _, hb, .inl rfl⟩
        · exact ⟨_, _, h2, hz⟩
      obtain ⟨_, g1⟩ := g1
      obtain ⟨_, _, g2, hz2⟩ := g2
      exact hr.apart b₁ b₂ _ _ _ g1 g2 hn hz2
  · rw [hsz]; exact Nat.le_refl _
  · intro B hB hno
    rw [setBlk_get hlt, if_neg]
    intro he
    exact hno ⟨b, cs, hb, he⟩
  · rintro B ⟨b', cs', hb', rfl⟩
    rw [getD_set h b _ hbl] at hb'
    split at hb'
    · rename_i heq
      subst heq
      exact .inr ⟨b, cs, hb, rfl⟩
    · exact .inr ⟨b', cs', hb', rfl⟩
  · rfl
  · rfl
  · rfl

theorem step_kill {ι : Inj} {h : Heap} {w : World} (hr : Rel ι h w) {b : Nat} {x : Blk} (hb : h[b]? = some x) : Step ι h w ι (h.set b .dead) w := by
  have hbl := get_lt hb
  have old : ∀ b' ro cs', (h.set b .dead)[b']? = some (Blk.mem ro cs') → h[b']? = some (Blk.mem ro cs') := fun b' ro cs' hb' => by
    rw [getD_set h b _ hbl] at hb'
    split at hb'
    · cases hb'
    · exact hb'
  constructor
  · simp
  · exact fun _ _ => rfl
  · constructor
    · intro b' ro cs' hb' i hi
      rw [List.length_set]
      exact hr.cell b' ro cs' (old _ _ _ hb') i hi
    · exact fun b' ro cs' hb' hz => hr.inside b' ro cs' (old _ _ _ hb') hz
    · exact fun b' ro cs' hb' => hr.fits b' ro cs' (old _ _ _ hb')
    · exact fun b' cs' hb' => hr.own b' cs' (old _ _ _ hb')
    · exact fun b₁ b₂ cs₁ ro cs₂ h1 h2 hn hz => hr.apart b₁ b₂ cs₁ ro cs₂ (old _ _ _ h1) (old _ _ _ h2) hn hz
  · exact Nat.le_refl _
  · exact fun _ _ _ => rfl
  · rintro B ⟨b', cs', hb', rfl⟩
    exact .inr ⟨b', cs', old _ _ _ hb', rfl⟩
  · rfl
  · rfl
  · rfl

/-- A block is given up; a new one takes the very same row of the model's memory, from 'off' on. -/
theorem step_regrow {ι : Inj} {h : Heap} {w : World} (hr : Rel ι h w) {b off : Nat} {cs cs2 : List Value} {c c2 : Array Value} {e : TypeId} {lo hi : Nat}
    (hb : h[b]? = some (.mem false cs)) (hw : w.heap[(ι b).blk]? = some (.cells c e (lo, hi))) (hs : c2.size = c.size) (hl : off + cs2.length ≤ c.size)
    (hc : ∀ i (h1 : i < cs2.length), ∃ v', c2[off + i]? = some v' ∧ VRel ι h.length cs2[i] v' ∧ v'.oneCell' = true) :
    Step ι h w (ι.set h.length ⟨(ι b).blk, off, c.size⟩) (newBlk (h.set b .dead) cs2) (setBlk w (ι b).blk (.cells c2 e (lo, hi))) := by
  have hlt := lt_of_get hw
  have hbl := get_lt hb
  have hsz : (setBlk w (ι b).blk (.cells c2 e (lo, hi))).heap.size = w.heap.size := by simp [setBlk]
  have hold : ∀ x, x < h.length → ι.set h.length ⟨(ι b).blk, off, c.size⟩ x = ι x := fun x hx => Inj.set_other (by omega)
  have hlen : (newBlk (h.set b .dead) cs2).length = h.length + 1 := by rw [length_new, List.length_set]
  have hfz : ∀ o, o < c.size → ¬ (lo ≤ o ∧ o < hi) := by
    obtain ⟨c', e', lo', hi', h1, h2, h3⟩ := hr.own b cs hb
    rw [hw] at h1
    injection h1 with h1
    injection h1 with a1 a2 a3
    injection a3 with a4 a5
    subst a1 a2 a4 a5
    exact h3
  have look : ∀ b' ro cs', (newBlk (h.set b .dead) cs2)[b']? = some (Blk.mem ro cs') → (b' < h.length ∧ b ≠ b' ∧ h[b']? = some (Blk.mem ro cs')) ∨ (b' = h.length ∧ ro = false ∧ cs' = cs2) := fun b' ro cs' hb' => by
    rw [get_new, List.length_set] at hb'
    split at hb'
    · rename_i hlt'
      rw [getD_set h b _ hbl] at hb'
      split at hb'
      · cases hb'
      · rename_i hn
        exact .inl ⟨hlt', hn, hb'⟩
    · split at hb'
      · rename_i heq
        injection hb' with hb'
        injection hb' with h1 h2
        exact .inr ⟨heq, h1.symm, h2.symm⟩
      · cases hb'
  have hne : ∀ b' ro cs', b ≠ b' → h[b']? = some (Blk.mem ro cs') → (ro = false ∨ cs' ≠ []) → (ι b).blk ≠ (ι b').blk := fun b' ro cs' hn hb' hz => hr.apart b b' cs ro cs' hb hb' hn hz
  constructor
  · rw [hlen]; omega
  · intro x hx
    rw [hlen] at hx
    exact Inj.set_other (by omega)
  · constructor
    · intro b' ro cs' hb' i hi'
      rcases look b' ro cs' hb' with ⟨h1, h2, h3⟩ | ⟨h1, h2, h3⟩
      · obtain ⟨v', h4, h5, h6⟩ := hr.cell b' ro cs' h3 i hi'
        refine ⟨v', ?_, h5.mono (fun x hx => hold x hx) (by rw [hlen]; omega), h6⟩
        rw [hold b' h1, cell_setBlk hlt, if_neg (hne b' ro cs' h2 h3 (.inr (by rintro rfl; simp at hi')))]
        exact h4
      · subst h1 h3
        obtain ⟨v', h4, h5, h6⟩ := hc i hi'
        refine ⟨v', ?_, ?_, h6⟩
        · rw [Inj.set_same, cell_setBlk hlt]
          simpa using h4
        · rw [getD_eq (List.getElem?_eq_getElem hi')]
          exact h5.mono (fun x hx => hold x hx) (by rw [hlen]; omega)
    · intro b' ro cs' hb' hz
      rw [hsz]
      rcases look b' ro cs' hb' with ⟨h1, h2, h3⟩ | ⟨h1, h2, h3⟩
      · rw [hold b' h1]
        exact hr.inside b' ro cs' h3 hz
      · subst h1
        rw [Inj.set_same]
        exact hlt
    · intro b' ro cs' hb'
      rcases look b' ro cs' hb' with ⟨h1, h2, h3⟩ | ⟨h1, h2, h3⟩
      · rw [hold b' h1]
        exact hr.fits b' ro cs' h3
      · subst h1 h3
        rw [Inj.set_same]
        exact hl
    · intro b' cs' hb'
      rcases look b' false cs' hb' with ⟨h1, h2, h3⟩ | ⟨h1, h2, h3⟩
      · rw [hold b' h1, setBlk_get hlt, if_neg (hne b' false cs' h2 h3 (.inl rfl))]
        exact hr.own b' cs' h3
      · subst h1 h3
        rw [Inj.set_same, setBlk_get hlt]
        exact ⟨c2, e, lo, hi, by simp, hs, by rw [hs]; exact hfz⟩
    · intro b₁ b₂ cs₁ ro cs₂ h1 h2 hn hz
      rcases look b₁ false cs₁ h1 with ⟨p1, p2, p3⟩ | ⟨p1, p2, p3⟩
      · rcases look b₂ ro cs₂ h2 with ⟨q1, q2, q3⟩ | ⟨q1, q2, q3⟩
        · rw [hold b₁ p1, hold b₂ q1]
          exact hr.apart b₁ b₂ cs₁ ro cs₂ p3 q3 hn hz
        · subst q1
          rw [hold b₁ p1, Inj.set_same]
          exact (hne b₁ false cs₁ p2 p3 (.inl rfl)).symm
      · subst p1
        rw [Inj.set_same]
        rcases look b₂ ro cs₂ h2 with ⟨q1, q2, q3⟩ | ⟨q1, q2, q3⟩
        · rw [hold b₂ q1]
          exact hne b₂ ro cs₂ q2 q3 hz
        · exact absurd q1.symm hn
  · rw [hsz]; exact Nat.le_refl _
  · intro B hB hno
    rw [setBlk_get hlt, if_neg]
    intro he
    exact hno ⟨b, cs, hb, he⟩
  · rintro B ⟨b', cs', hb', rfl⟩
    rcases look b' false cs' hb' with ⟨h1, h2, h3⟩ | ⟨h1, h2, h3⟩
    · rw [hold b' h1]
      exact .inr ⟨b', cs', h3, rfl⟩
    · subst h1
      rw [Inj.set_same]
      exact .inr ⟨b, cs, hb, rfl⟩
  · rfl
  · rfl
  · rfl

end Go.Wb

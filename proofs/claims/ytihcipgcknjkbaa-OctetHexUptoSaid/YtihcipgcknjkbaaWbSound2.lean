/- The abstract machine's operations are sound: loads, stores, new blocks, slices. -/
import Derived.Test.YtihcipgcknjkbaaWbSoundEq
namespace Go.Wb
open Go
section
variable {P : Program} {ι : Inj} {h h' : Heap} {w : World} {t : T} {ρ : Operand → Value} {v : Value}

theorem valCells_one {n : Nat} {x x' : Value} (hx : VRel ι n x x') (hn : ∀ vs, x ≠ .tuple vs) : ∀ u ∈ valCells x', u.oneCell' = true := by
  cases hx <;> simp only [valCells, List.mem_singleton, forall_eq, Value.oneCell'] <;> first | (exact absurd rfl (hn _)) | skip
  rename_i h1
  intro u hu
  exact h1 u (by simpa using hu)

/-! ### Cells of zero, again and again -/
theorem flatten_get (zs : List Value) (hn : 1 ≤ zs.length) : ∀ (m i : Nat), i < m * zs.length → (List.replicate m zs).flatten[i]? = zs[i % zs.length]?
  | 0, i, hi => by simp at hi
  | m + 1, i, hi => by
    rw [List.replicate_succ, List.flatten_cons, List.getElem?_append]
    split
    · rename_i hlt
      rw [Nat.mod_eq_of_lt hlt]
    · rename_i hge
      rw [flatten_get zs hn m (i - zs.length) (by rw [Nat.succ_mul] at hi; omega)]
      rw [← Nat.mod_eq_sub_mod (by omega)]

theorem repCells_length (m : Nat) (zs : List Value) : (repCells m zs).length = m * zs.length := by
  unfold repCells
  split
  · simp
  · simp

theorem repCells_get (m i : Nat) (zs : List Value) (hn : 1 ≤ zs.length) (hi : i < m * zs.length) : (repCells m zs)[i]? = zs[i % zs.length]? := by
  unfold repCells
  split
  · rename_i z
    have : i < m := by simpa using hi
    simp [this, Nat.mod_one]
  · exact flatten_get zs hn m i hi

theorem range_get (z : Array Value) (k i : Nat) (hi : i < k) (hz : 1 ≤ z.size) : ((Array.range k).map (fun j => z[j % z.size]!))[i]? = z.toList[i % z.size]? := by
  have hm : i % z.size < z.size := Nat.mod_lt _ (by omega)
  have h1 : z[i % z.size]! = z[i % z.size] := getElem!_pos z _ hm
  rw [Array.getElem?_map, Array.getElem?_range, if_pos hi]
  simp only [Option.map_some, h1]
  rw [List.getElem?_eq_getElem (by simpa using hm)]
  simp

/-! ### Parts put into their places -/
theorem fill_fold : ∀ (vs : List Value) (k off : Nat) (cells : Array Value), off + k + vs.length ≤ cells.size →
    ((vs.zipIdx k).foldl (fun cs (x : Value × Nat) => cs.setIfInBounds (off + x.2) x.1) cells).toList = cells.toList.take (off + k) ++ vs ++ cells.toList.drop (off + k + vs.length)
  | [], k, off, cells, _ => by simp
  | u :: vs, k, off, cells, hl => by
    simp only [List.length_cons] at hl
    rw [List.zipIdx_cons, List.foldl_cons, fill_fold vs (k + 1) off _ (by simp; omega)]
    have hlt : off + k < cells.toList.length := by simp; omega
    rw [Array.toList_setIfInBounds]
    rw [show off + (k + 1) = (off + k) + 1 by omega]
    rw [List.take_set, List.take_succ_eq_append_getElem hlt]
    simp only [List.length_cons]
    rw [List.drop_set_of_lt (by omega), List.set_append_right _ _ (by simp; omega)]
    have : (off + k) - (cells.toList.take (off + k)).length = 0 := by simp; omega
    rw [this]
    simp [show off + k + 1 + vs.length = off + k + (vs.length + 1) by omega]

theorem fill_sound {n : Nat} (he : ERel ι n t ρ) (place : Nat → Option (Nat × Nat)) : ∀ (parts : List (Nat × Operand)) (l : List (Nat × Nat × Operand)) (cs cs2 : List Value) (cells : Array Value),
    partsOf P place parts = some l → (∀ x ∈ parts, operOk x.2 = true) → fillL t cs l = some cs2 → CRel ι n cs cells.toList → (∀ u ∈ cells.toList, u.oneCell' = true) →
    ∃ cells2, Instr.fill place cells (parts.map fun x => (x.1, ρ x.2)) = some cells2 ∧ CRel ι n cs2 cells2.toList ∧ (∀ u ∈ cells2.toList, u.oneCell' = true) ∧ cells2.size = cells.size
  | [], l, cs, cs2, cells, hp, _, hf, hc, h1 => by
    simp only [partsOf] at hp
    injection hp with hp
    subst hp
    simp only [fillL] at hf
    injection hf with hf
    subst hf
    exact ⟨cells, rfl, hc, h1, rfl⟩
  | (i, x) :: parts, l, cs, cs2, cells, hp, hok, hf, hc, h1 => by
    simp only [partsOf] at hp
    split at hp
    · rename_i o s l' hpl hrest
      injection hp with hp
      subst hp
      simp only [fillL] at hf
      split at hf
      · rename_i hcond
        obtain ⟨hs, hle, htu⟩ := hcond
        have hv := he x (hok (i, x) (by simp))
        have hvc := hv.isAgg
        have hsz : (ρ x).cells.size = s := by
          have := hvc.1
          rw [valCells_eq (ρ x)] at this
          simp at this
          omega
        have hnt : ∀ vs, Ev t x ≠ .tuple vs := by
          intro vs hvs
          rw [hvs] at htu
          cases htu
        have hone := valCells_one hv hnt
        have hcl := hc.1
        simp only [Array.length_toList] at hcl
        have hfold := fill_fold (valCells (ρ x)) 0 o cells (by rw [← hvc.1, hs]; omega)
        have heq : ((ρ x).cells.zipIdx.foldl (fun cs (y : Value × Nat) => cs.setIfInBounds (o + y.2) y.1) cells) = ((valCells (ρ x)).zipIdx 0).foldl (fun cs (y : Value × Nat) => cs.setIfInBounds (o + y.2) y.1) cells := by
          rw [valCells_eq, ← Array.foldl_toList, Array.toList_zipIdx]
        have hcrel : CRel ι n (cs.take o ++ valCells (Ev t x) ++ cs.drop (o + s)) (((ρ x).cells.zipIdx.foldl (fun cs (y : Value × Nat) => cs.setIfInBounds (o + y.2) y.1) cells)).toList := by
          rw [heq, hfold]
          have hl2 : (valCells (ρ x)).length = s := by rw [← hvc.1, hs]
          rw [hl2]
          exact crel_append (crel_append (crel_take hc _) hvc) (crel_drop hc _)
        have hone2 : ∀ u ∈ (((ρ x).cells.zipIdx.foldl (fun cs (y : Value × Nat) => cs.setIfInBounds (o + y.2) y.1) cells)).toList, u.oneCell' = true := by
          rw [heq, hfold]
          intro u hu
          simp only [List.mem_append] at hu
          rcases hu with (hu | hu) | hu
          · exact h1 u (List.mem_of_mem_take hu)
          · exact hone u hu
          · exact h1 u (List.mem_of_mem_drop hu)
        obtain ⟨cells2, g1, g2, g3, g4⟩ := fill_sound he place parts l' _ cs2 _ hrest (fun y hy => hok y (by simp [hy])) hf hcrel hone2
        refine ⟨cells2, ?_, g2, g3, ?_⟩
        · simp only [List.map_cons, Instr.fill, hpl, hsz]
          rw [if_neg (by simp; omega)]
          exact g1
        · rw [g4, heq]
          have := congrArg List.length hfold
          simp only [Array.length_toList] at this
          rw [this]
          have hl2 : (valCells (ρ x)).length = s := by rw [← hvc.1, hs]
          simp [hl2]
          omega
      · cases hf
    · cases hp

end
end Go.Wb

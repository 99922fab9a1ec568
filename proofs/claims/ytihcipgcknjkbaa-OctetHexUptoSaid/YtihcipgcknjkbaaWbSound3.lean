/- The abstract machine's operations are sound, one after the other. -/
import Derived.Test.YtihcipgcknjkbaaWbSound2
namespace Go.Wb
open Go
section
variable {P : Program} {ι : Inj} {h h' : Heap} {w : World} {t : T} {ρ : Operand → Value} {v : Value} {d : Option Tmp} {ty : TypeId} {pos : String} {af : Array Edge} {g : Option (Nat × Bool)}

theorem aggN_none {e : TypeId} (ha : aggN P e = some none) : ∃ i u, P.info? e = some i ∧ P.underlying e = some u ∧ isAggT P e = false := by
  cases hi : P.info? e with
  | none => simp [aggN, hi] at ha
  | some i =>
    cases hu : P.underlying e with
    | none => simp [aggN, hi, hu] at ha
    | some u =>
      refine ⟨i, u, rfl, rfl, ?_⟩
      cases u <;> first | (simp [isAggT, isAggC, hu]; done) | (simp [aggN, hi, hu] at ha)

theorem aggN_some {e : TypeId} {m : Nat} (ha : aggN P e = some (some m)) : ∃ i u, P.info? e = some i ∧ P.underlying e = some u ∧ isAggT P e = true ∧ i.size = m := by
  unfold aggN at ha
  split at ha
  · rename_i i fs h1 h2
    injection ha with ha
    injection ha with ha
    exact ⟨_, _, h1, h2, by simp [isAggT, isAggC, h2], ha⟩
  · rename_i i n e' h1 h2
    injection ha with ha
    injection ha with ha
    exact ⟨_, _, h1, h2, by simp [isAggT, isAggC, h2], ha⟩
  · cases ha
  · cases ha

theorem op_load {e : TypeId} {x : Operand} {n : Option Nat} (hr : Rel ι h w) (he : ERel ι h.length t ρ) (hox : operOk x = true) (ha : aggN P e = some n) (hx : aOp (.load n x) t h = some (v, h')) :
    Does P (execOp ρ ⟨d, .load e x, ty, pos, af, g⟩) ι h w v h' := by
  simp only [aOp, Option.map_eq_some_iff] at hx
  obtain ⟨v1, hv, hx⟩ := hx
  injection hx with h1 h2
  subst h1 h2
  have hxr := he x hox
  unfold readV at hv
  split at hv
  · rename_i b o heq
    rw [heq] at hxr
    obtain ⟨hb, hp⟩ := hxr.ptr_inv
    unfold read1 at hv
    split at hv
    · rename_i ro cs hcs
      obtain ⟨v', c1, c2, c3⟩ := rel_read hr hcs hv
      obtain ⟨i, u, hi, hu, hag⟩ := aggN_none ha
      refine Does.pure hr (v' := v') ?_ c2
      rw [hp]
      simp only [Instr.loadAt, Instr.sureAddr, pure_bind, loadVar, Sem.run_bind, run_isAgg hu, hag, Result.andThen_ok, Bool.false_eq_true, if_false]
      rw [run_load, c1]
    · cases hv
  · rename_i b o m heq
    rw [heq] at hxr
    obtain ⟨hb, hp⟩ := hxr.ptr_inv
    rw [Option.map_eq_some_iff] at hv
    obtain ⟨cs, hcs, hv⟩ := hv
    subst hv
    obtain ⟨i, u, hi, hu, hag, hsz⟩ := aggN_some ha
    obtain ⟨hl, vs', hrun, hrel, hone⟩ := rel_readN (P := P) hr hcs
    refine Does.pure hr (v' := .agg vs'.toArray) ?_ (agg_crel hrel hone)
    rw [hp]
    simp only [Instr.loadAt, Instr.sureAddr, pure_bind, loadVar, Sem.run_bind, run_isAgg hu, hag, Result.andThen_ok, if_true, run_size hi, hsz, hrun, Sem.run_pure]
  · cases hv

theorem run_storeVar {e : TypeId} {i : TypeInfo} {a : Addr} {x : Value} {r : Result Unit} (hi : P.info? e = some i) (hs : x.cells.size = i.size) (hrun : (storeCells a x.cells.toList).run P w = r) :
    (storeVar e a x).run P w = r := by
  unfold storeVar
  simp only [Sem.run_bind, run_size hi, Result.andThen_ok]
  rw [Sem.run_ite, if_neg (by simp [hs])]
  exact hrun

theorem op_store {e : TypeId} {a x : Operand} {n : Option Nat} (hr : Rel ι h w) (he : ERel ι h.length t ρ) (hoa : operOk a = true) (hox : operOk x = true) (ha : aggN P e = some n) (hs : n = none → ∃ i, P.info? e = some i ∧ i.size = 1)
    (hx : aOp (.store n a x) t h = some (v, h')) :
    Does P (execOp ρ ⟨d, .store e a x, ty, pos, af, g⟩) ι h w v h' := by
  simp only [aOp, Option.map_eq_some_iff] at hx
  obtain ⟨h1, hw, hx⟩ := hx
  injection hx with e1 e2
  subst e1 e2
  have har := he a hoa
  have hxr := he x hox
  unfold writeV at hw
  split at hw
  · rename_i b o heq
    rw [heq] at har
    obtain ⟨hb, hp⟩ := har.ptr_inv
    split at hw
    · rename_i hone
      unfold write1 at hw
      split at hw
      · rename_i cs hcs
        split at hw
        · rename_i hlt
          injection hw with hw
          subst hw
          obtain ⟨i, hi, hsz⟩ := hs rfl
          obtain ⟨c, ce, lo, hi2, hwc, hcsz, hfz⟩ := hr.own b cs hcs
          have hfit := hr.fits b false cs hcs
          have hone' := hxr.oneCell hone
          have hcells : (ρ x).cells = #[ρ x] := by
            generalize ρ x = y at hone'
            cases y <;> first | rfl | (simp [Value.oneCell'] at hone')
          obtain ⟨c2, hrun, hs2, hget⟩ := run_storeCells (P := P) (ι b).blk ((ι b).off + o) ce lo hi2 [ρ x] 0 c w hwc (by simp; omega) hfz (by simpa using hone')
          refine Does.unit (w' := setBlk w (ι b).blk (.cells c2 ce (lo, hi2))) ?_ (step_write hr hcs hwc hs2 (by simp) ?_)
          · rw [hp]
            simp only [Instr.storeAt, Instr.sureAddr, pure_bind]
            exact run_storeVar hi (by rw [hcells, hsz]; rfl) (by rw [hcells]; exact hrun)
          · intro j hj
            rw [List.length_set] at hj
            rw [hget]
            by_cases hoj : o = j
            · subst hoj
              refine ⟨ρ x, by simp, ?_, hone'⟩
              simpa using hxr
            · rw [if_neg (by simp; omega)]
              obtain ⟨v', q1, q2, q3⟩ := hr.cell b false cs hcs j hj
              refine ⟨v', ?_, ?_, q3⟩
              · simpa [World.cell?, hwc] using q1
              · rw [getD_eq (List.getElem?_eq_getElem hj)] at q2
                simpa [List.getElem_set_ne hoj] using q2
        · cases hw
      · cases hw
    · cases hw
  · rename_i b o m heq
    rw [heq] at har
    obtain ⟨hb, hp⟩ := har.ptr_inv
    split at hw
    · rename_i ag hag
      split at hw
      · rename_i hm
        rw [hag] at hxr
        obtain ⟨ag', hpx, hcr, hone⟩ := hxr.agg_inv
        unfold writeN at hw
        split at hw
        · rename_i cs hcs
          split at hw
          · rename_i hle
            injection hw with hw
            subst hw
            obtain ⟨i, u, hi, hu, _, hsz⟩ := aggN_some ha
            obtain ⟨c, ce, lo, hi2, hwc, hcsz, hfz⟩ := hr.own b cs hcs
            have hfit := hr.fits b false cs hcs
            have hlag := hcr.1
            simp only [Array.length_toList] at hlag hle
            obtain ⟨c2, hrun, hs2, hget⟩ := run_storeCells (P := P) (ι b).blk ((ι b).off + o) ce lo hi2 ag'.toList 0 c w hwc (by simp; omega) hfz (by simpa using hone)
            refine Does.unit (w' := setBlk w (ι b).blk (.cells c2 ce (lo, hi2))) ?_ (step_write hr hcs hwc hs2 (by simp; omega) ?_)
            · rw [hp, hpx]
              simp only [Instr.storeAt, Instr.sureAddr, pure_bind]
              exact run_storeVar hi (by simp only [Value.cells]; omega) hrun
            · intro j hj
              simp only [List.length_append, List.length_take, List.length_drop, Array.length_toList] at hj
              rw [hget]
              have hjc : j < cs.length := by omega
              by_cases hoj : o ≤ j ∧ j < o + ag.size
              · rw [if_pos (by simp; omega)]
                have hlt : j - o < ag'.toList.length := by simp only [Array.length_toList]; omega
                have hlt2 : j - o < ag.toList.length := by simp only [Array.length_toList]; omega
                refine ⟨ag'.toList[j - o], ?_, ?_, hone _ (by simp)⟩
                · rw [show (ι b).off + j - ((ι b).off + o + 0) = j - o by omega]
                  exact List.getElem?_eq_getElem hlt
                · have h2 := hcr.2 (j - o)
                  rw [getD_eq (List.getElem?_eq_getElem hlt), getD_eq (List.getElem?_eq_getElem hlt2)] at h2
                  rw [List.getElem_append_left (by simp; omega), List.getElem_append_right (by simp; omega)]
                  have h3 : j - (List.take o cs).length = j - o := by simp; omega
                  simp only [h3]
                  exact h2
              · rw [if_neg (by simp; omega)]
                obtain ⟨v', q1, q2, q3⟩ := hr.cell b false cs hcs j hjc
                refine ⟨v', ?_, ?_, q3⟩
                · simpa [World.cell?, hwc] using q1
                · rw [getD_eq (List.getElem?_eq_getElem hjc)] at q2
                  rcases Nat.lt_or_ge j o with hjo | hjo
                  · rw [List.getElem_append_left (by simp; omega), List.getElem_append_left (by simp; omega)]
                    simpa using q2
                  · rw [List.getElem_append_right (by simp; omega)]
                    simp only [List.getElem_drop]
                    have h3 : o + ag.toList.length + (j - (List.take o cs ++ ag.toList).length) = j := by simp; omega
                    simp only [h3]
                    exact q2
          · cases hw
        · cases hw
      · cases hw
    · cases hw
  · cases hw

/-- A new block of just these cells. -/
theorem does_new {cs : List Value} {c : Array Value} {e : TypeId} {s : Sem Value} (hr : Rel ι h w) (hrun : s.run P w = .ok (.pointer (some ⟨w.heap.size, 0, none⟩)) (w.alloc (.cells c e)))
    (hc : CRel ι h.length cs c.toList) (h1 : ∀ u ∈ c.toList, u.oneCell' = true) :
    Does P (do pure (.value (← s))) ι h w (.pointer (some ⟨h.length, 0, none⟩)) (newBlk h cs) := by
  have hl := hc.1
  simp only [Array.length_toList] at hl
  have hst := step_new hr cs c e 0 0 w.drawn (by omega) (fun i q1 q2 => ⟨by
    have := hc.2 i
    rw [getD_eq (List.getElem?_eq_getElem q1), getD_eq (List.getElem?_eq_getElem (by simpa using q2))] at this
    simpa using this, h1 _ (by simp)⟩) (fun o _ => by omega)
  refine Does.value hrun hst ?_
  have := VRel.ptr (ι := ι.set h.length ⟨w.heap.size, 0, c.size⟩) (n := (newBlk h cs).length) h.length 0 (by rw [length_new]; omega)
  rwa [Inj.set_same] at this

theorem op_box {e : TypeId} {x : Operand} (hr : Rel ι h w) (he : ERel ι h.length t ρ) (hox : operOk x = true) (hx : aOp (.box x) t h = some (v, h')) :
    Does P (execOp ρ ⟨d, .box e x, ty, pos, af, g⟩) ι h w v h' := by
  simp only [aOp] at hx
  split at hx
  · rename_i htu
    injection hx with hx
    injection hx with h1 h2
    subst h1 h2
    have hxr := he x hox
    have hone := valCells_one hxr (fun vs hvs => by rw [hvs] at htu; cases htu)
    rw [valCells_eq (ρ x)] at hone
    refine does_new (c := (ρ x).cells) (e := e) hr ?_ ?_ hone
    · simp [Instr.box, newVar, newRow]
    · rw [← valCells_eq]; exact hxr.isAgg
  · cases hx

theorem zeroOf_some {e : TypeId} {zs : List Value} (hz : zeroOf P e = some zs) : ∃ i z, P.info? e = some i ∧ i.zero = some z ∧ valCells z = zs ∧ zs.length = i.size ∧ zs.all constOk = true := by
  unfold zeroOf at hz
  split at hz
  · rename_i i hi
    split at hz
    · rename_i z hzz
      split at hz
      · rename_i hc
        injection hz with hz
        subst hz
        exact ⟨i, z, hi, hzz, rfl, hc.1, hc.2⟩
      · cases hz
    · cases hz
  · cases hz

theorem const_one {x : Value} (hx : constOk x = true) : x.oneCell' = true := by
  unfold constOk at hx
  split at hx <;> first | rfl | cases hx

theorem op_alloc {e : TypeId} {zs : List Value} (hr : Rel ι h w) (hz : zeroOf P e = some zs) (hx : aOp (.alloc zs) t h = some (v, h')) :
    Does P (execOp ρ ⟨d, .alloc e, ty, pos, af, g⟩) ι h w v h' := by
  simp only [aOp] at hx
  injection hx with hx
  injection hx with h1 h2
  subst h1 h2
  obtain ⟨i, z, hi, hzz, hv, hl, hc⟩ := zeroOf_some hz
  subst hv
  refine does_new (c := z.cells) (e := e) hr ?_ ?_ ?_
  · simp [Instr.alloc, run_zero hi hzz, newVar, newRow]
  · rw [← valCells_eq]; exact const_crel hc
  · rw [← valCells_eq]; exact fun u hu => const_one (List.all_eq_true.1 hc u hu)

end
end Go.Wb

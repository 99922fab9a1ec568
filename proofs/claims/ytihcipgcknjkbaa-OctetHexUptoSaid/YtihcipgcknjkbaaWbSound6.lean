/- The abstract machine's operations are sound: what is built, made, appended and copied. -/
import Derived.Test.YtihcipgcknjkbaaWbSound5
import Derived.IntWalk
namespace Go.Wb
open Go
section
variable {P : Program} {ι : Inj} {h h' : Heap} {w : World} {t : T} {ρ : Operand → Value} {v : Value} {d : Option Tmp} {ty : TypeId} {pos : String} {af : Array Edge} {g : Option (Nat × Bool)}

theorem run_places (P : Program) (w : World) : ∀ (fs : List Field), (∀ f ∈ fs, (P.info? f.type).isSome = true) →
    (fs.mapM (fun f => do Pure.pure (f.offset, ← sizeOf f.type) : Field → Sem (Nat × Nat))).run P w = .ok (fs.map fun f => (f.offset, P.cellsOf f.type)) w
  | [], _ => by simp
  | f :: fs, hf => by
    obtain ⟨i, hi⟩ := Option.isSome_iff_exists.1 (hf f (by simp))
    have ih := run_places P w fs (fun g hg => hf g (by simp [hg]))
    simp only [List.mapM_cons, Sem.run_bind, run_size hi, Result.andThen_ok, Sem.run_pure, ih, List.map_cons]
    simp [Program.cellsOf, hi]

theorem op_build_struct {e : TypeId} {parts : Array (Nat × Operand)} {fs : Array Field} {zs : List Value} {l : List (Nat × Nat × Operand)} (hr : Rel ι h w) (he : ERel ι h.length t ρ) (hp : ∀ x ∈ parts.toList, operOk x.2 = true)
    (hz : zeroOf P e = some zs) (hu : P.underlying e = some (.struct fs)) (hl : partsOf P (fun i => (fs[i]?).bind fun f => (P.info? f.type).map fun j => (f.offset, j.size)) parts.toList = some l)
    (hi : fs.all (fun f => (P.info? f.type).isSome) = true) (hx : aOp (.build zs l) t h = some (v, h')) :
    Does P (execOp ρ ⟨d, .build e parts, ty, pos, af, g⟩) ι h w v h' := by
  simp only [aOp, Option.map_eq_some_iff] at hx
  obtain ⟨cs2, hv, hx⟩ := hx
  injection hx with h1 h2
  subst h1 h2
  obtain ⟨i, z, hii, hzz, hvz, hzl, hc⟩ := zeroOf_some hz
  subst hvz
  have hall : ∀ f ∈ fs.toList, (P.info? f.type).isSome = true := fun f hf => by
    have := Array.all_eq_true.1 hi
    obtain ⟨k, hk, rfl⟩ := List.getElem_of_mem hf
    simpa using this k (by simpa using hk)
  have hplace : (fun (i : Nat) => (fs[i]?).bind fun (f : Field) => (P.info? f.type).map fun j => (f.offset, j.size)) = fun (i : Nat) => (fs.map fun (f : Field) => (f.offset, P.cellsOf f.type))[i]? := by
    funext k
    rw [Array.getElem?_map]
    cases hk : fs[k]? with
    | none => rfl
    | some f =>
      have hm : f ∈ fs.toList := by
        have := Array.mem_of_getElem? hk
        simpa using this
      obtain ⟨j, hj⟩ := Option.isSome_iff_exists.1 (hall f hm)
      simp [hj, Program.cellsOf]
  rw [hplace] at hl
  obtain ⟨cells2, g1, g2, g3, g4⟩ := fill_sound he _ parts.toList l _ cs2 z.cells hl hp hv (by rw [← valCells_eq]; exact const_crel hc) (by rw [← valCells_eq]; exact fun u hu => const_one (List.all_eq_true.1 hc u hu))
  refine Does.pure hr (v' := .agg cells2) ?_ ?_
  · simp only [Instr.build, Sem.run_bind, run_zero hii hzz, Result.andThen_ok, run_under hu]
    rw [Array.mapM_eq_mapM_toList]
    simp only [Sem.run_map, run_places P w fs.toList hall, Result.andThen_ok]
    have : (parts.map fun x => (x.1, ρ x.2)).toList = parts.toList.map fun x => (x.1, ρ x.2) := by simp
    rw [this]
    have e3 : (fun (i : Nat) => ((fs.toList.map fun (f : Field) => (f.offset, P.cellsOf f.type)).toArray)[i]?) = fun (i : Nat) => (fs.map fun (f : Field) => (f.offset, P.cellsOf f.type))[i]? := by
      funext i; simp
    rw [e3, g1]
    rfl
  · have := agg_crel g2 g3
    simpa using this

theorem op_build_array {e el : TypeId} {parts : Array (Nat × Operand)} {n : Nat} {zs : List Value} {l : List (Nat × Nat × Operand)} {j : TypeInfo} (hr : Rel ι h w) (he : ERel ι h.length t ρ) (hp : ∀ x ∈ parts.toList, operOk x.2 = true)
    (hz : zeroOf P e = some zs) (hu : P.underlying e = some (.array n el)) (hj : P.info? el = some j) (hl : partsOf P (fun i => some (i * j.size, j.size)) parts.toList = some l)
    (hx : aOp (.build zs l) t h = some (v, h')) :
    Does P (execOp ρ ⟨d, .build e parts, ty, pos, af, g⟩) ι h w v h' := by
  simp only [aOp, Option.map_eq_some_iff] at hx
  obtain ⟨cs2, hv, hx⟩ := hx
  injection hx with h1 h2
  subst h1 h2
  obtain ⟨i, z, hii, hzz, hvz, hzl, hc⟩ := zeroOf_some hz
  subst hvz
  obtain ⟨cells2, g1, g2, g3, g4⟩ := fill_sound he _ parts.toList l _ cs2 z.cells hl hp hv (by rw [← valCells_eq]; exact const_crel hc) (by rw [← valCells_eq]; exact fun u hu => const_one (List.all_eq_true.1 hc u hu))
  refine Does.pure hr (v' := .agg cells2) ?_ ?_
  · simp only [Instr.build, Sem.run_bind, run_zero hii hzz, Result.andThen_ok, run_under hu, run_size hj]
    have : (parts.map fun x => (x.1, ρ x.2)).toList = parts.toList.map fun x => (x.1, ρ x.2) := by simp
    rw [this, g1]
    rfl
  · have := agg_crel g2 g3
    simpa using this

theorem rep_crel {n : Nat} {z : Array Value} (m : Nat) (hz : 1 ≤ z.size) (hc : z.toList.all constOk = true) :
    CRel ι n (repCells m z.toList) ((Array.range (m * z.size)).map (fun j => z[j % z.size]!)).toList ∧ ∀ u ∈ ((Array.range (m * z.size)).map (fun j => z[j % z.size]!)).toList, u.oneCell' = true := by
  have hget : ∀ i, i < m * z.size → ((Array.range (m * z.size)).map (fun j => z[j % z.size]!)).toList[i]? = z.toList[i % z.size]? := fun i hi => by
    rw [Array.getElem?_toList]
    exact range_get z _ i hi hz
  have hlen : (repCells m z.toList).length = ((Array.range (m * z.size)).map (fun j => z[j % z.size]!)).toList.length := by
    rw [repCells_length]; simp
  have hmem : ∀ i, i < m * z.size → ∃ u, z.toList[i % z.size]? = some u ∧ constOk u = true := fun i hi => by
    have hm : i % z.size < z.toList.length := by simpa using Nat.mod_lt i (by omega)
    exact ⟨_, List.getElem?_eq_getElem hm, List.all_eq_true.1 hc _ (List.getElem_mem hm)⟩
  constructor
  · refine crel_of hlen fun i h1 h2 => ?_
    have hi : i < m * z.size := by rw [repCells_length] at h1; simpa using h1
    obtain ⟨u, hu, hcu⟩ := hmem i hi
    have e1 := repCells_get m i z.toList (by simpa using hz) (by simpa using hi)
    rw [Array.length_toList, hu, List.getElem?_eq_getElem h1] at e1
    have e2 := hget i hi
    rw [hu, List.getElem?_eq_getElem h2] at e2
    injection e1 with e1
    injection e2 with e2
    rw [e1, e2]
    exact const_rel hcu
  · intro u hu
    obtain ⟨i, hi, rfl⟩ := List.getElem_of_mem hu
    have hi' : i < m * z.size := by simpa using hi
    obtain ⟨u, hu', hcu⟩ := hmem i hi'
    have e2 := hget i hi'
    rw [hu', List.getElem?_eq_getElem hi] at e2
    injection e2 with e2
    rw [e2]
    exact const_one hcu

theorem op_buildSlice {e el : TypeId} {parts : Array (Nat × Operand)} {n : Nat} {zs : List Value} {l : List (Nat × Nat × Operand)} {j : TypeInfo} (hr : Rel ι h w) (he : ERel ι h.length t ρ) (hp : ∀ x ∈ parts.toList, operOk x.2 = true)
    (hz : zeroOf P el = some zs) (hu : P.underlying e = some (.slice el)) (hj : P.info? el = some j) (hl : partsOf P (fun i => some (i * j.size, j.size)) parts.toList = some l)
    (hn : n * j.size ≤ lim24) (h1 : 1 ≤ j.size) (hx : aOp (.buildSlice j.size n zs l) t h = some (v, h')) :
    Does P (execOp ρ ⟨d, .buildSlice e n parts, ty, pos, af, g⟩) ι h w v h' := by
  simp only [aOp, Option.map_eq_some_iff] at hx
  obtain ⟨cs2, hv, hx⟩ := hx
  injection hx with e1 e2
  subst e1 e2
  obtain ⟨i, z, hii, hzz, hvz, hzl, hc⟩ := zeroOf_some hz
  rw [hj] at hii
  injection hii with hii
  subst hii
  subst hvz
  have hzs : z.cells.size = j.size := by rw [valCells_eq] at hzl; simpa using hzl
  rw [valCells_eq] at hv hc
  obtain ⟨r1, r2⟩ := rep_crel (ι := ι) (n := h.length) n (by omega : 1 ≤ z.cells.size) hc
  obtain ⟨cells2, g1, g2, g3, g4⟩ := fill_sound he _ parts.toList l _ cs2 _ hl hp hv r1 r2
  have hst := step_new hr cs2 cells2 el 0 0 w.drawn (by have := g2.1; simp at this; omega) (fun i q1 q2 => ⟨by
    have := g2.2 i
    rw [getD_eq (List.getElem?_eq_getElem q1), getD_eq (List.getElem?_eq_getElem (by simpa using q2))] at this
    simpa using this, g3 _ (by simp)⟩) (fun o _ => by omega)
  have hrun : (Instr.buildSlice e n (parts.map fun x => (x.1, ρ x.2))).run P w = .ok (.slice (some ⟨w.heap.size, 0, none⟩) n n) { w with heap := w.heap.push (.cells cells2 el (0, 0)), drawn := w.drawn } := by
    have hK : lim24 = 16777216 := by decide
    rw [hK] at hn
    have hle : ¬ (n * j.size > 16777216) := Nat.not_lt.2 hn
    have hpl : (parts.map fun x => (x.1, ρ x.2)).toList = parts.toList.map fun x => (x.1, ρ x.2) := by simp
    unfold Instr.buildSlice
    simp only [Sem.run_bind, run_under hu, Result.andThen_ok, run_size hj, Sem.run_ite]
    rw [if_neg hle]
    rw [hzs] at g1
    by_cases h0 : n * j.size = 0
    · rw [if_pos h0]
      simp only [Sem.run_pure, Result.andThen_ok]
      rw [h0] at g1 ⊢
      rw [hpl]
      have e0 : (Array.range 0).map (fun j_1 => z.cells[j_1 % j.size]!) = (Array.range 0).map (fun x => (#[] : Array Value)[x % (#[] : Array Value).size]!) := by
        simp only [Array.range_zero', List.map_toArray, List.map_nil]
      rw [e0] at g1
      rw [g1]
      simp only [Sem.run_bind, newRow, run_newObj, Result.andThen_ok, Sem.run_pure]
    · rw [if_neg h0]
      simp only [run_zero hj hzz, Result.andThen_ok, Sem.run_pure]
      rw [hpl, hzs, g1]
      simp only [Sem.run_bind, newRow, run_newObj, Result.andThen_ok, Sem.run_pure]
  refine Does.value hrun hst ?_
  have hsz : (ι.set h.length ⟨w.heap.size, 0, cells2.size⟩) h.length = ⟨w.heap.size, 0, cells2.size⟩ := Inj.set_same
  have := VRel.mkSlice (ι := ι.set h.length ⟨w.heap.size, 0, cells2.size⟩) (n := (newBlk h cs2).length) h.length 0 n j.size 0 n (by rw [length_new]; omega) (fun _ => by rw [hsz]) (Nat.le_refl _) (by rw [hsz, g4]; simp [hzs])
  rwa [hsz] at this

theorem lim48_int : ((lim48 : Nat) : Int) = 2 ^ 48 := by decide

theorem wrap_small (m : Nat) (hm : m ≤ lim48) : IntKind.i64.wrap (m : Int) = m := by
  have h1 : (m : Int) ≤ 2 ^ 48 := by rw [← lim48_int]; exact Int.ofNat_le.2 hm
  have e1 : (2 : Int) ^ 48 = 281474976710656 := by decide
  rw [e1] at h1
  exact IntWalk.i64_in _ (by omega)

theorem op_makeSlice {e el : TypeId} {len cap : Operand} {zs : List Value} {j : TypeInfo} (hr : Rel ι h w) (he : ERel ι h.length t ρ) (hol : operOk len = true) (hoc : operOk cap = true)
    (hz : zeroOf P el = some zs) (hu : P.underlying e = some (.slice el)) (hj : P.info? el = some j) (h1 : 1 ≤ j.size) (hb : 1 ≤ j.bytes) (hx : aOp (.makeSlice j.size j.bytes zs len cap) t h = some (v, h')) :
    Does P (execOp ρ ⟨d, .makeSlice e len cap, ty, pos, af, g⟩) ι h w v h' := by
  simp only [aOp] at hx
  have hlr := he len hol
  have hcr := he cap hoc
  split at hx
  · rename_i k l k' c heq1 heq2
    rw [heq1] at hlr
    rw [heq2] at hcr
    split at hx
    · rename_i hcond
      obtain ⟨hl0, hlc, hbc⟩ := hcond
      injection hx with hx
      injection hx with e1 e2
      subst e1 e2
      obtain ⟨i, z, hii, hzz, hvz, hzl, hc⟩ := zeroOf_some hz
      rw [hj] at hii
      injection hii with hii
      subst hii
      subst hvz
      have hzs : z.cells.size = j.size := by rw [valCells_eq] at hzl; simpa using hzl
      rw [valCells_eq] at hc ⊢
      obtain ⟨l, rfl⟩ := Int.eq_ofNat_of_zero_le hl0
      obtain ⟨c, rfl⟩ := Int.eq_ofNat_of_zero_le (Int.le_trans hl0 hlc)
      have hbc' : j.bytes * c ≤ lim48 := by exact_mod_cast hbc
      have hcle : c ≤ lim48 := Nat.le_trans (Nat.le_trans (Nat.le_of_eq (Nat.one_mul c).symm) (Nat.mul_le_mul_right c hb)) hbc'
      have hlc' : l ≤ c := by omega
      have wrapc : ∀ m : Nat, m ≤ lim48 → IntKind.i64.wrap (m : Int) = m := fun m hm => wrap_small m hm
      obtain ⟨r1, r2⟩ := rep_crel (ι := ι) (n := h.length) c (by omega : 1 ≤ z.cells.size) hc
      obtain ⟨q1, _⟩ := rep_crel (ι := ι) (n := h.length) l (by omega : 1 ≤ z.cells.size) hc
      have hsize : ((Array.range (c * z.cells.size)).map (fun j => z.cells[j % z.cells.size]!)).size = c * z.cells.size := by simp
      have hst := step_new hr (repCells l z.cells.toList) ((Array.range (c * z.cells.size)).map (fun j => z.cells[j % z.cells.size]!)) el 0 0 w.drawn
        (by rw [repCells_length, hsize, Array.length_toList]; exact Nat.mul_le_mul_right _ hlc')
        (fun i p1 p2 => by
          have hi : i < l * z.cells.size := by rw [repCells_length] at p1; simpa using p1
          have hm : i % z.cells.size < z.cells.toList.length := by simpa using Nat.mod_lt i (by omega)
          have e1 := repCells_get l i z.cells.toList (by simp; omega) (by simpa using hi)
          have e2 := range_get z.cells (c * z.cells.size) i (by simpa using p2) (by omega)
          rw [Array.length_toList, List.getElem?_eq_getElem hm, List.getElem?_eq_getElem p1] at e1
          rw [List.getElem?_eq_getElem hm, Array.getElem?_eq_getElem p2] at e2
          injection e1 with e1
          injection e2 with e2
          rw [e1, e2]
          have := List.all_eq_true.1 hc _ (List.getElem_mem hm)
          exact ⟨const_rel this, const_one this⟩) (fun o _ => by omega)
      refine Does.value (s := Instr.makeSlice e (ρ len) (ρ cap)) (v' := .slice (some ⟨w.heap.size, 0, none⟩) l c) ?_ hst ?_
      · rw [hlr.int_inv, hcr.int_inv]
        simp only [Instr.makeSlice, Sem.run_bind, run_under hu, Result.andThen_ok, asInt, asIntOf, pure_bind, run_info hj, wrapc c hcle, wrapc l (by omega)]
        have hnot : ((decide ((c : Int) < 0) || decide ((j.bytes : Int) * (c : Int) > 2 ^ 48)) || decide ((l : Int) < 0) || decide ((l : Int) > (c : Int))) = false := by
          have a1 : ¬ ((j.bytes : Int) * (c : Int) > 2 ^ 48) := by
            have h2 : ((lim48 : Nat) : Int) = 2 ^ 48 := lim48_int
            have : ((j.bytes * c : Nat) : Int) ≤ ((lim48 : Nat) : Int) := Int.ofNat_le.2 hbc'
            rw [Int.natCast_mul, h2] at this
            exact Int.not_lt.2 this
          simp only [Bool.or_eq_false_iff, decide_eq_false_iff_not]
          exact ⟨⟨⟨by omega, a1⟩, by omega⟩, by omega⟩
        rw [Sem.run_ite, if_neg (by rw [hnot]; simp)]
        simp only [Sem.run_bind, run_askRoom, Result.andThen_ok, run_size hj, Int.toNat_natCast, Sem.run_ite]
        by_cases h0 : c * j.size = 0
        · have hc0 : c = 0 := by
            rcases Nat.mul_eq_zero.1 h0 with h | h
            · exact h
            · omega
          have hl0' : l = 0 := by omega
          subst hc0
          subst hl0'
          rw [if_pos h0]
          simp only [Sem.run_pure, Result.andThen_ok, newRow, Sem.run_bind, run_newObj, Nat.zero_mul]
          have : (Array.range 0).map (fun j => z.cells[j % z.cells.size]!) = (Array.range 0).map (fun x => (#[] : Array Value)[x % (#[] : Array Value).size]!) := by simp only [Array.range_zero', List.map_toArray, List.map_nil]
          rw [this]
        · rw [if_neg h0]
          simp only [Sem.run_bind, run_zero hj hzz, Result.andThen_ok, Sem.run_pure, newRow, run_newObj, hzs]
      · have hsz : (ι.set h.length ⟨w.heap.size, 0, ((Array.range (c * z.cells.size)).map (fun j => z.cells[j % z.cells.size]!)).size⟩) h.length = ⟨w.heap.size, 0, ((Array.range (c * z.cells.size)).map (fun j => z.cells[j % z.cells.size]!)).size⟩ := Inj.set_same
        have := VRel.mkSlice (ι := ι.set h.length ⟨w.heap.size, 0, ((Array.range (c * z.cells.size)).map (fun j => z.cells[j % z.cells.size]!)).size⟩) (n := (newBlk h (repCells l z.cells.toList)).length) h.length 0 l j.size 0 c (by rw [length_new]; omega) (fun _ => by rw [hsz]) hlc' (by rw [hsz]; simp [hzs])
        rw [hsz] at this
        simpa using this
    · cases hx
  · cases hx

end
end Go.Wb

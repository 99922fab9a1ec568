/- The abstract machine's operations are sound: lengths, the lesser and the greater, strings and bytes, append and copy. -/
import Derived.Test.YtihcipgcknjkbaaWbSound6
namespace Go.Wb
open Go
section
variable {P : Program} {ι : Inj} {h h' : Heap} {w : World} {t : T} {ρ : Operand → Value} {v : Value} {d : Option Tmp} {ty : TypeId} {pos : String} {af : Array Edge} {g : Option (Nat × Bool)}

theorem callB_len {args : Array Operand} {ats : Array TypeId} : execOp ρ ⟨d, .call ⟨.builtin .len, args, ats⟩, ty, pos, af, g⟩ = (do Pure.pure (.value (← Builtin.len_ ats ty (args.map ρ)))) := rfl
theorem callB_max {args : Array Operand} {ats : Array TypeId} : execOp ρ ⟨d, .call ⟨.builtin .max, args, ats⟩, ty, pos, af, g⟩ = (do Pure.pure (.value (← Builtin.max_ ats ty (args.map ρ)))) := rfl
theorem callB_min {args : Array Operand} {ats : Array TypeId} : execOp ρ ⟨d, .call ⟨.builtin .min, args, ats⟩, ty, pos, af, g⟩ = (do Pure.pure (.value (← Builtin.min_ ats ty (args.map ρ)))) := rfl
theorem callB_append {args : Array Operand} {ats : Array TypeId} : execOp ρ ⟨d, .call ⟨.builtin .append, args, ats⟩, ty, pos, af, g⟩ = (do Pure.pure (.value (← Builtin.append_ ats ty (args.map ρ)))) := rfl
theorem callB_copy {args : Array Operand} {ats : Array TypeId} : execOp ρ ⟨d, .call ⟨.builtin .copy, args, ats⟩, ty, pos, af, g⟩ = (do Pure.pure (.value (← Builtin.copy_ ats ty (args.map ρ)))) := rfl

theorem op_len {x : Operand} {e el : TypeId} (hr : Rel ι h w) (he : ERel ι h.length t ρ) (hox : operOk x = true) (hu : P.underlying e = some (.slice el)) (hx : aOp (.len x) t h = some (v, h')) :
    Does P (execOp ρ ⟨d, .call ⟨.builtin .len, #[x], #[e]⟩, ty, pos, af, g⟩) ι h w v h' := by
  rw [callB_len]
  simp only [aOp] at hx
  have hxr := he x hox
  split at hx
  · rename_i a n m heq
    injection hx with hx
    injection hx with h1 h2
    subst h1 h2
    rw [heq] at hxr
    generalize hy : ρ x = y at hxr
    refine Does.pure (s := Builtin.len_ #[e] ty (#[x].map ρ)) hr (v' := .int .i64 n) ?_ (.int _ _)
    rw [show #[x].map ρ = #[ρ x] from by simp, hy]
    cases hxr with
    | nilSlice => simp [Builtin.len_, run_under hu, goInt]
    | slice b o len s a cap hb hl hc => simp [Builtin.len_, run_under hu, goInt]
  · cases hx

theorem op_lenStr {x : Operand} {e : TypeId} (hr : Rel ι h w) (he : ERel ι h.length t ρ) (hox : operOk x = true) (hu : P.underlying e = some .string) (hx : aOp (.lenStr x) t h = some (v, h')) :
    Does P (execOp ρ ⟨d, .call ⟨.builtin .len, #[x], #[e]⟩, ty, pos, af, g⟩) ι h w v h' := by
  rw [callB_len]
  simp only [aOp] at hx
  have hxr := he x hox
  split at hx
  · rename_i s heq
    injection hx with hx
    injection hx with h1 h2
    subst h1 h2
    rw [heq] at hxr
    refine Does.pure (s := Builtin.len_ #[e] ty (#[x].map ρ)) hr (v' := .int .i64 s.size) ?_ (.int _ _)
    rw [show #[x].map ρ = #[ρ x] from by simp, hxr.string_inv]
    simp [Builtin.len_, run_under hu, goInt]
  · cases hx

theorem op_lenArr {x : Operand} {e : TypeId} {n : Nat} (hr : Rel ι h w) (hu : (∃ el, P.underlying e = some (.array n el)) ∨ ∃ a el, P.underlying e = some (.pointer a) ∧ P.underlying a = some (.array n el)) (hx : aOp (.const (.int .i64 n)) t h = some (v, h')) :
    Does P (execOp ρ ⟨d, .call ⟨.builtin .len, #[x], #[e]⟩, ty, pos, af, g⟩) ι h w v h' := by
  rw [callB_len]
  simp only [aOp] at hx
  injection hx with hx
  injection hx with h1 h2
  subst h1 h2
  refine Does.pure (s := Builtin.len_ #[e] ty (#[x].map ρ)) hr (v' := .int .i64 n) ?_ (.int _ _)
  rw [show #[x].map ρ = #[ρ x] from by simp]
  rcases hu with ⟨el, hu⟩ | ⟨a, el, hu, hu2⟩
  · simp [Builtin.len_, run_under hu, goInt]
  · simp [Builtin.len_, run_under hu, run_under hu2, goInt]

theorem op_max2 {x y : Operand} {ats : Array TypeId} (hr : Rel ι h w) (he : ERel ι h.length t ρ) (hox : operOk x = true) (hoy : operOk y = true) (hx : aOp (.max2 x y) t h = some (v, h')) :
    Does P (execOp ρ ⟨d, .call ⟨.builtin .max, #[x, y], ats⟩, ty, pos, af, g⟩) ι h w v h' := by
  rw [callB_max]
  simp only [aOp] at hx
  have hxr := he x hox
  have hyr := he y hoy
  split at hx
  · rename_i k a k' b heq1 heq2
    injection hx with hx
    injection hx with h1 h2
    subst h1 h2
    rw [heq1] at hxr
    rw [heq2] at hyr
    refine Does.pure (s := Builtin.max_ ats ty (#[x, y].map ρ)) hr (v' := .int k (if b > a then b else a)) ?_ (.int _ _)
    rw [show #[x, y].map ρ = #[ρ x, ρ y] from by simp, hxr.int_inv, hyr.int_inv]
    simp [Builtin.max_, Builtin.max2]
  · cases hx

theorem op_min2 {x y : Operand} {ats : Array TypeId} (hr : Rel ι h w) (he : ERel ι h.length t ρ) (hox : operOk x = true) (hoy : operOk y = true) (hx : aOp (.min2 x y) t h = some (v, h')) :
    Does P (execOp ρ ⟨d, .call ⟨.builtin .min, #[x, y], ats⟩, ty, pos, af, g⟩) ι h w v h' := by
  rw [callB_min]
  simp only [aOp] at hx
  have hxr := he x hox
  have hyr := he y hoy
  split at hx
  · rename_i k a k' b heq1 heq2
    injection hx with hx
    injection hx with h1 h2
    subst h1 h2
    rw [heq1] at hxr
    rw [heq2] at hyr
    refine Does.pure (s := Builtin.min_ ats ty (#[x, y].map ρ)) hr (v' := .int k (if b < a then b else a)) ?_ (.int _ _)
    rw [show #[x, y].map ρ = #[ρ x, ρ y] from by simp, hxr.int_inv, hyr.int_inv]
    simp [Builtin.min_, Builtin.min2]
  · cases hx

/-! ### The cells of a slice or a string -/
theorem src_sound {size : Nat} {x x' : Value} {cs : List Value} (hr : Rel ι h w) (h1 : 1 ≤ size) (hs : srcCells h size x = some cs) (hx : VRel ι h.length x x') :
    (Builtin.lenOf x').run P w = .ok (srcLen x) w ∧ cs.length = srcLen x * size ∧
    ∃ cs', CRel ι h.length cs cs' ∧ (∀ u ∈ cs', u.oneCell' = true) ∧ ∀ m, m ≤ srcLen x → (Builtin.firstCells size m x').run P w = .ok (cs'.take (m * size)).toArray w := by
  unfold srcCells at hs
  split at hs
  · injection hs with hs
    subst hs
    cases hx
    refine ⟨rfl, by simp [srcLen], [], ⟨rfl, fun _ => .undef⟩, by simp, fun m hm => ?_⟩
    simp only [srcLen] at hm
    have : m = 0 := by omega
    subst this
    simp [Builtin.firstCells]
  · rename_i b o n s
    split at hs
    · rename_i hsz
      subst hsz
      obtain ⟨hb, a, cap, hp, hl, hc⟩ := hx.slice_inv
      subst hp
      split at hs
      · rename_i h0
        subst h0
        injection hs with hs
        subst hs
        refine ⟨rfl, by simp [srcLen], [], ⟨rfl, fun _ => .undef⟩, by simp, fun m hm => ?_⟩
        simp only [srcLen] at hm
        have : m = 0 := by omega
        subst this
        simp [Builtin.firstCells, loadCells, loadCellsFrom]
      · rename_i h0
        obtain ⟨hlen, cs', hrel, hone, hcell⟩ := rel_cells hr hs
        refine ⟨rfl, hlen, cs', hrel, hone, fun m hm => ?_⟩
        have hc3 := hc (by omega)
        clear hc
        obtain ⟨o', rfl, ho, _⟩ := hc3
        rw [ho (by omega)]
        exact run_loadPrefix (n := n * s) (by rw [← hrel.1, hlen]) (Nat.mul_le_mul_right s hm) hcell
    · cases hs
  · rename_i s
    split at hs
    · rename_i hsz
      subst hsz
      injection hs with hs
      subst hs
      cases hx
      refine ⟨rfl, by simp [srcLen], s.data.toList.map fun b => .int .u8 b.toNat, ?_, ?_, fun m hm => ?_⟩
      · refine crel_of rfl fun i q1 q2 => ?_
        simp only [List.getElem_map]
        exact .int _ _
      · intro u hu
        obtain ⟨b, _, rfl⟩ := List.mem_map.1 hu
        rfl
      · simp only [Builtin.firstCells, Sem.run_pure]
        congr 1
        apply Array.ext'
        simp [ByteArray.data_extract]
    · cases hs
  · cases hs

theorem growBy_le (need : Nat) : ∀ (r c : Nat), 256 ≤ c → c ≤ 2 * need → Builtin.growBy need r c ≤ 2 * need
  | 0, c, _, hc => hc
  | r + 1, c, h1, hc => by
    simp only [Builtin.growBy]
    split
    · exact hc
    · exact growBy_le need r _ (by omega) (by omega)

theorem nextcap_le {need cap : Nat} (hlt : cap < need) : Builtin.nextslicecap need cap ≤ 2 * need := by
  unfold Builtin.nextslicecap
  split
  · omega
  · split
    · omega
    · exact growBy_le need 4 cap (by omega) (by omega)

theorem zeroCells_size (z : Array Value) (k : Nat) : (Builtin.zeroCells z k).size = k * z.size := by simp [Builtin.zeroCells]

/-- What the built-in append does, once lengths and cells are known. -/
theorem run_append {e el tx : TypeId} {s x : Value} {base : Option Addr} {n cap m : Nat} {i : TypeInfo} {z : Value} {dx : TypeDesc} (hu : P.underlying e = some (.slice el)) (hx : P.underlying tx = some dx) (hnx : (∃ e2, dx = .slice e2) ∨ dx = .string)
    (hi : P.info? el = some i) (hz : i.zero = some z) (hs : s = .slice base n cap) (hl : (Builtin.lenOf x).run P w = .ok m w) (hb : 1 ≤ i.bytes) :
    (n + m ≤ cap → ∀ (new : Array Value) (w' : World), (Builtin.firstCells i.size m x).run P w = .ok new w → (match base with | some a => (storeCells (a.add (n * i.size)) new.toList).run P w = .ok () w' | none => w' = w) →
      (Builtin.append_ #[e, tx] ty #[s, x]).run P w = .ok (.slice base (n + m) cap) w') ∧
    (cap < n + m → (n + m) * i.bytes ≤ lim47 → ∀ (old new : Array Value), (Builtin.firstCells i.size n s).run P { w with drawn := w.drawn + 1 } = .ok old { w with drawn := w.drawn + 1 } →
      (Builtin.firstCells i.size m x).run P { w with drawn := w.drawn + 1 } = .ok new { w with drawn := w.drawn + 1 } →
      ∃ k, (Builtin.append_ #[e, tx] ty #[s, x]).run P w = .ok (.slice (some ⟨w.heap.size, 0, none⟩) (n + m) (n + m + k)) { w with heap := w.heap.push (.cells (old ++ new ++ Builtin.zeroCells z.cells k) el (0, 0)), drawn := w.drawn + 1 }) := by
  subst hs
  have hgen : (Builtin.append_ #[e, tx] ty #[.slice base n cap, x]).run P w =
      if n + m ≤ cap then ((Builtin.firstCells i.size m x).run P w).andThen fun new w1 => match base with
        | some a => ((storeCells (a.add (n * i.size)) new.toList).run P w1).andThen fun _ w2 => .ok (.slice base (n + m) cap) w2
        | none => .ok (.slice base (n + m) cap) w1
      else if Builtin.nextslicecap (n + m) cap * i.bytes > 2 ^ 48 then (Builtin.append_ #[e, tx] ty #[.slice base n cap, x]).run P w
      else ((choose (.appendCap (n + m) cap el)).run P w).andThen fun newCap w1 => ((Builtin.firstCells i.size n (.slice base n cap)).run P w1).andThen fun old w2 =>
        ((Builtin.firstCells i.size m x).run P w2).andThen fun new w3 =>
        .ok (.slice (some ⟨w3.heap.size, 0, none⟩) (n + m) newCap) { w3 with heap := w3.heap.push (.cells (old ++ new ++ Builtin.zeroCells z.cells (newCap - (n + m))) el (0, 0)) } := by
    by_cases hbig : n + m ≤ cap
    · rw [if_pos hbig]
      conv => lhs; unfold Builtin.append_
      rcases hnx with ⟨e2, rfl⟩ | rfl <;>
      · simp only [List.getElem?_toArray, List.getElem?_cons_zero, List.getElem?_cons_succ, Sem.run_bind, run_under hu, Result.andThen_ok, run_size hi, run_under hx, Sem.run_pure, Bool.false_eq_true, if_false, hl, Bool.not_false, if_true, Sem.run_ite, if_pos hbig]
        congr 1
        funext new w1
        cases base <;> simp
    · rw [if_neg hbig]
      by_cases hbytes : Builtin.nextslicecap (n + m) cap * i.bytes > 2 ^ 48
      · rw [if_pos hbytes]
      · rw [if_neg hbytes]
        have hb0 : ¬ (i.bytes = 0) := by omega
        conv => lhs; unfold Builtin.append_
        rcases hnx with ⟨e2, rfl⟩ | rfl <;>
        · simp only [List.getElem?_toArray, List.getElem?_cons_zero, List.getElem?_cons_succ, Sem.run_bind, run_under hu, Result.andThen_ok, run_size hi, run_under hx, Sem.run_pure, Bool.false_eq_true, if_false, hl, Bool.not_false, if_true, Sem.run_ite, if_neg hbig, run_info hi, hb0, or_self, and_false, run_askRoom, run_zero hi hz, newRow, run_newObj]
          rw [if_neg hbytes]
  constructor
  · intro hle new w' hn hst
    rw [hgen, if_pos hle, hn]
    simp only [Result.andThen_ok]
    cases base with
    | none => simp only at hst; subst hst; rfl
    | some a => simp only at hst; simp only [hst, Result.andThen_ok]
  · intro hlt hb47 old new ho hn
    have hbytes : ¬ (Builtin.nextslicecap (n + m) cap * i.bytes > 2 ^ 48) := by
      have h1 := nextcap_le hlt
      have h2 : Builtin.nextslicecap (n + m) cap * i.bytes ≤ 2 * (n + m) * i.bytes := Nat.mul_le_mul_right _ h1
      have h3 : 2 * (n + m) * i.bytes = 2 * ((n + m) * i.bytes) := Nat.mul_assoc _ _ _
      have h4 : (2 : Nat) ^ 48 = 2 * lim47 := by decide
      rw [h4]
      generalize lim47 = L at *
      generalize (n + m) * i.bytes = q at *
      omega
    rw [hgen, if_neg (by omega), if_neg hbytes]
    simp only [run_choose, Question.forced, Bool.false_eq_true, if_false, Result.andThen_ok]
    rw [ho]
    simp only [Result.andThen_ok]
    rw [hn]
    simp only [Result.andThen_ok]
    have hq : n + m ≤ (Question.appendCap (n + m) cap el).cut (w.tape w.drawn (Question.appendCap (n + m) cap el)) := by
      simp only [Question.cut]
      exact Nat.le_add_right _ _
    generalize (Question.appendCap (n + m) cap el).cut (w.tape w.drawn (Question.appendCap (n + m) cap el)) = q at hq
    refine ⟨q - (n + m), ?_⟩
    rw [show n + m + (q - (n + m)) = q by omega]

theorem cells_push {cs : List Value} {c : Array Value} {n : Nat} (hc : CRel ι n cs c.toList) {i : Nat} (h1 : i < cs.length) (h2 : i < c.size) : VRel ι n cs[i] c[i] := by
  have := hc.2 i
  rw [getD_eq (List.getElem?_eq_getElem h1), getD_eq (List.getElem?_eq_getElem (by simpa using h2))] at this
  simpa using this

/-- A new row of these cells and of spare ones behind them. -/
theorem append_new {cs : List Value} {old new spare : Array Value} {cs1 cs2 : List Value} {el : TypeId} {n size : Nat} (hr : Rel ι h w) (h1 : CRel ι h.length cs1 old.toList) (h2 : CRel ι h.length cs2 new.toList)
    (o1 : ∀ u ∈ old.toList, u.oneCell' = true) (o2 : ∀ u ∈ new.toList, u.oneCell' = true) (hcs : cs = cs1 ++ cs2) {k : Nat} (hsz : (old ++ new ++ spare).size = (n + k) * size) (dr : Nat) :
    Step ι h w (ι.set h.length ⟨w.heap.size, 0, (old ++ new ++ spare).size⟩) (newBlk h cs) { w with heap := w.heap.push (.cells (old ++ new ++ spare) el (0, 0)), drawn := dr } ∧
    VRel (ι.set h.length ⟨w.heap.size, 0, (old ++ new ++ spare).size⟩) (newBlk h cs).length (.slice (some ⟨h.length, 0, none⟩) n size) (.slice (some ⟨w.heap.size, 0, none⟩) n (n + k)) := by
  have hall := crel_append h1 h2
  have hl := hall.1
  subst hcs
  simp only [List.length_append, Array.length_toList] at hl
  constructor
  · refine step_new hr (cs1 ++ cs2) (old ++ new ++ spare) el 0 0 dr (by simp; omega) (fun i p1 p2 => ?_) (fun o _ => by omega)
    have p3 : i < (old ++ new).size := by simp at p1 ⊢; omega
    have e : (old ++ new ++ spare)[i] = (old ++ new)[i] := Array.getElem_append_left p3
    rw [e]
    refine ⟨cells_push (by simpa using hall) p1 p3, ?_⟩
    have hm : (old ++ new)[i] ∈ (old ++ new) := Array.getElem_mem p3
    rw [Array.mem_append] at hm
    rcases hm with hm | hm
    · exact o1 _ (Array.mem_toList_iff.2 hm)
    · exact o2 _ (Array.mem_toList_iff.2 hm)
  · have hsz2 : (ι.set h.length ⟨w.heap.size, 0, (old ++ new ++ spare).size⟩) h.length = ⟨w.heap.size, 0, (old ++ new ++ spare).size⟩ := Inj.set_same
    have := VRel.mkSlice (ι := ι.set h.length ⟨w.heap.size, 0, (old ++ new ++ spare).size⟩) (n := (newBlk h (cs1 ++ cs2)).length) h.length 0 n size 0 (n + k) (by rw [length_new]; omega) (fun _ => by rw [hsz2]) (by omega) (by rw [hsz2, hsz]; simp)
    rwa [hsz2] at this

theorem op_append {s x : Operand} {e el tx : TypeId} {dx : TypeDesc} {i : TypeInfo} {z : Value} (hr : Rel ι h w) (he : ERel ι h.length t ρ) (hos : operOk s = true) (hox : operOk x = true)
    (hu : P.underlying e = some (.slice el)) (hx : P.underlying tx = some dx) (hnx : (∃ e2, dx = .slice e2) ∨ dx = .string) (hi : P.info? el = some i) (hz : i.zero = some z) (hzs : z.cells.size = i.size) (hb : 1 ≤ i.bytes) (h1 : 1 ≤ i.size)
    (ha : aOp (.append i.size i.bytes s x) t h = some (v, h')) :
    Does P (execOp ρ ⟨d, .call ⟨.builtin .append, #[s, x], #[e, tx]⟩, ty, pos, af, g⟩) ι h w v h' := by
  rw [callB_append, show #[s, x].map ρ = #[ρ s, ρ x] from by simp]
  simp only [aOp, aAppend] at ha
  split at ha
  · cases ha
  · rename_i new hsrc
    have hsr := he s hos
    have hxr := he x hox
    obtain ⟨hlen, hnl, new', hnew, hnone, hfirst⟩ := src_sound (P := P) hr h1 hsrc hxr
    have hrd := hr.drawn (w.drawn + 1)
    obtain ⟨_, _, new2, hnew2, hnone2, hfirst2⟩ := src_sound (P := P) hrd h1 hsrc hxr
    split at ha
    · rename_i heq
      rw [heq] at hsr
      obtain ⟨_, _, hp⟩ := hsr.nilSlice_inv
      obtain ⟨r1, r2⟩ := run_append (P := P) (w := w) (ty := ty) hu hx hnx hi hz hp hlen hb
      split at ha
      · rename_i h0
        injection ha with ha
        injection ha with e1 e2
        subst e1 e2
        have hf := hfirst 0 (by omega)
        rw [h0] at r1
        have := r1 (by omega) _ w hf rfl
        refine Does.pure hr this ?_
        rw [heq]
        exact .nilSlice
      · rename_i h0
        split at ha
        · rename_i hle
          injection ha with ha
          injection ha with e1 e2
          subst e1 e2
          have hf := hfirst2 (srcLen (Ev t x)) (Nat.le_refl _)
          have hl2 : new2.length = srcLen (Ev t x) * i.size := by rw [← hnew2.1, hnl]
          rw [← hl2, List.take_length] at hf
          obtain ⟨k, hrun⟩ := r2 (by omega) (by rw [Nat.zero_add]; exact hle) #[] new2.toArray (by rw [hp]; rfl) hf
          rw [Nat.zero_add] at hrun
          obtain ⟨hst, hv⟩ := append_new (cs := new) (old := #[]) (new := new2.toArray) (spare := Builtin.zeroCells z.cells k) (cs1 := []) (cs2 := new) (el := el) (n := srcLen (Ev t x)) (size := i.size) (k := k) hr ⟨rfl, fun _ => .undef⟩ hnew2 (by simp) (by simpa using hnone2) rfl
            (by simp [zeroCells_size, hl2, hzs, Nat.add_mul]) (w.drawn + 1)
          exact Does.value hrun hst hv
        · cases ha
    · rename_i b o n sz heq
      split at ha
      · rename_i hsz
        subst hsz
        rw [heq] at hsr
        obtain ⟨hbl, a0, cap, hp, hcl, hcap⟩ := hsr.slice_inv
        obtain ⟨r1, r2⟩ := run_append (P := P) (w := w) (ty := ty) hu hx hnx hi hz hp hlen hb
        split at ha
        · rename_i h0
          injection ha with ha
          injection ha with e1 e2
          subst e1 e2
          have hf := hfirst 0 (by omega)
          rw [h0] at r1
          have := r1 (by omega) _ w hf (by simp [storeCells])
          refine Does.pure hr this ?_
          rw [heq]
          exact .slice b o n i.size a0 cap hbl hcl hcap
        · rename_i h0
          split at ha
          · rename_i cs hcs
            split at ha
            · rename_i hle
              obtain ⟨hle1, hle2⟩ := hle
              injection ha with ha
              injection ha with e1 e2
              subst e1 e2
              have hold : readN h b o (n * i.size) = some ((cs.drop o).take (n * i.size)) := by
                unfold readN
                rw [hcs]
                simp only
                rw [if_pos hle1]
              by_cases hfit : n + srcLen (Ev t x) ≤ cap
              · have hc3 := hcap (by omega)
                clear hcap
                obtain ⟨o', rfl, ho, hcap⟩ := hc3
                obtain ⟨c, ce, lo, hi2, hwc, hcsz, hfz⟩ := hr.own b cs hcs
                have hf := hfirst (srcLen (Ev t x)) (Nat.le_refl _)
                have hl2 : new'.length = srcLen (Ev t x) * i.size := by rw [← hnew.1, hnl]
                rw [← hl2, List.take_length] at hf
                have hroom : o' + n * i.size + new'.length ≤ c.size := by
                  rw [hl2, hcsz]
                  have : n * i.size + srcLen (Ev t x) * i.size ≤ cap * i.size := by rw [← Nat.add_mul]; exact Nat.mul_le_mul_right _ hfit
                  omega
                obtain ⟨c2, hrun, hs2, hget⟩ := run_storeCells (P := P) (ι b).blk (o' + n * i.size) ce lo hi2 new' 0 c w hwc (by omega) hfz hnone
                have hstore := r1 hfit _ _ hf (by simpa [addr_add] using hrun)
                obtain ⟨hol, old', hold1, hold2, hold3⟩ := rel_cells hr hold
                have hall := crel_append hold1 hnew
                have hstep := step_regrow (off := o') (cs2 := (cs.drop o).take (n * i.size) ++ new) hr hcs hwc hs2 (by rw [List.length_append, hol, hnl, ← hl2]; omega) (by
                  intro j hj
                  rw [List.length_append, hol, hnl] at hj
                  rw [hget]
                  by_cases hjn : j < n * i.size
                  · rw [if_neg (by omega)]
                    have hn0 : 0 < n := by
                      rcases Nat.eq_zero_or_pos n with hz0 | hz0
                      · subst hz0; simp at hjn
                      · exact hz0
                    have hc3 := hold3 j hjn
                    rw [← ho hn0] at hc3
                    have hlo : j < old'.length := by rw [← hold1.1, hol]; exact hjn
                    rw [getD_eq (List.getElem?_eq_getElem hlo)] at hc3
                    refine ⟨old'[j], ?_, ?_, hold2 _ (List.getElem_mem hlo)⟩
                    · simpa [World.cell?, hwc] using hc3
                    · have hj2 : j < ((cs.drop o).take (n * i.size)).length := by rw [hol]; exact hjn
                      have := hold1.2 j
                      rw [getD_eq (List.getElem?_eq_getElem hj2), getD_eq (List.getElem?_eq_getElem hlo)] at this
                      rw [List.getElem_append_left hj2]
                      exact this
                  · rw [if_pos (by omega)]
                    have hln : j - n * i.size < new'.length := by omega
                    have hln2 : j - n * i.size < new.length := by rw [hnew.1]; exact hln
                    refine ⟨new'[j - n * i.size], ?_, ?_, hnone _ (List.getElem_mem hln)⟩
                    · rw [show o' + j - (o' + n * i.size + 0) = j - n * i.size by omega]
                      exact List.getElem?_eq_getElem hln
                    · have := hnew.2 (j - n * i.size)
                      rw [getD_eq (List.getElem?_eq_getElem hln2), getD_eq (List.getElem?_eq_getElem hln)] at this
                      rw [List.getElem_append_right (by rw [hol]; omega)]
                      simp only [hol]
                      exact this)
                refine Does.value hstore hstep ?_
                have hsz2 : (ι.set h.length ⟨(ι b).blk, o', c.size⟩) h.length = ⟨(ι b).blk, o', c.size⟩ := Inj.set_same
                have := VRel.mkSlice (ι := ι.set h.length ⟨(ι b).blk, o', c.size⟩) (n := (newBlk (h.set b .dead) ((cs.drop o).take (n * i.size) ++ new)).length) h.length 0 (n + srcLen (Ev t x)) i.size o' cap (by rw [length_new, List.length_set]; omega) (fun _ => by rw [hsz2]; rfl) hfit (by rw [hsz2, hcsz]; exact hcap)
                rwa [hsz2] at this
              · have hkill := step_kill hr hcs
                have hf := hfirst2 (srcLen (Ev t x)) (Nat.le_refl _)
                have hl2 : new2.length = srcLen (Ev t x) * i.size := by rw [← hnew2.1, hnl]
                rw [← hl2, List.take_length] at hf
                obtain ⟨hol, old', hold1, hold2, hold3⟩ := rel_cells hrd hold
                have hol' : old'.length = n * i.size := by rw [← hold1.1, hol]
                have hfo : (Builtin.firstCells i.size n (ρ s)).run P { w with drawn := w.drawn + 1 } = .ok old'.toArray { w with drawn := w.drawn + 1 } := by
                  rw [hp]
                  simp only [Builtin.firstCells]
                  rcases Nat.eq_zero_or_pos n with hz0 | hz0
                  · subst hz0
                    have : old' = [] := List.eq_nil_of_length_eq_zero (by simpa using hol')
                    subst this
                    simp [loadCells, loadCellsFrom]
                  · have hc3 := hcap (by omega)
                    clear hcap
                    obtain ⟨o', rfl, ho, _⟩ := hc3
                    rw [ho hz0, run_loadPrefix hol' (Nat.le_refl _) hold3, ← hol', List.take_length]
                obtain ⟨k, hrun⟩ := r2 (by omega) hle2 old'.toArray new2.toArray hfo hf
                obtain ⟨hst, hv⟩ := append_new (h := h.set b .dead) (cs := (cs.drop o).take (n * i.size) ++ new) (old := old'.toArray) (new := new2.toArray) (spare := Builtin.zeroCells z.cells k) (cs1 := (cs.drop o).take (n * i.size)) (cs2 := new) (el := el) (n := n + srcLen (Ev t x)) (size := i.size) (k := k)
                  hkill.rel (by rw [List.length_set]; simpa using hold1) (by rw [List.length_set]; simpa using hnew2) (by simpa using hold2) (by simpa using hnone2) rfl (by simp [zeroCells_size, hol', hl2, hzs, Nat.add_mul]) (w.drawn + 1)
                rw [List.length_set] at hst hv
                exact Does.value hrun (hkill.trans hst) hv
            · cases ha
          · cases ha
      · cases ha
    · cases ha

theorem op_copy {dd s : Operand} {e el e2 : TypeId} {i : TypeInfo} (hr : Rel ι h w) (he : ERel ι h.length t ρ) (hod : operOk dd = true) (hos : operOk s = true)
    (hu : P.underlying e = some (.slice el)) (hi : P.info? el = some i) (h1 : 1 ≤ i.size) (ha : aOp (.copy i.size dd s) t h = some (v, h')) :
    Does P (execOp ρ ⟨d, .call ⟨.builtin .copy, #[dd, s], #[e, e2]⟩, ty, pos, af, g⟩) ι h w v h' := by
  rw [callB_copy, show #[dd, s].map ρ = #[ρ dd, ρ s] from by simp]
  simp only [aOp, aCopy] at ha
  have hdr := he dd hod
  have hsr := he s hos
  have hgen : ∀ (base : Option Addr) (n cap m : Nat), ρ dd = .slice base n cap → (Builtin.lenOf (ρ s)).run P w = .ok m w → ∀ (cells : Array Value), (Builtin.firstCells i.size (Nat.min m n) (ρ s)).run P w = .ok cells w →
      (Builtin.copy_ #[e, e2] ty #[ρ dd, ρ s]).run P w = (match base with | some a => ((storeCells a cells.toList).run P w).andThen fun _ w2 => .ok (goInt (Nat.min m n : Nat)) w2 | none => .ok (goInt (Nat.min m n : Nat)) w) := by
    intro base n cap m hb hl cells hc
    rw [hb]
    unfold Builtin.copy_
    simp only [List.getElem?_toArray, List.getElem?_cons_zero, List.getElem?_cons_succ, Sem.run_bind, run_under hu, Result.andThen_ok, hl, run_size hi, hc]
    cases base <;> simp
  split at ha
  · rename_i b o n sz heq
    split at ha
    · rename_i hsz
      subst hsz
      split at ha
      · cases ha
      · rename_i cs hsrc
        rw [heq] at hdr
        obtain ⟨hbl, a0, cap, hp, hcl, hcap⟩ := hdr.slice_inv
        obtain ⟨hlen, hnl, cs', hcr, hone, hfirst⟩ := src_sound (P := P) hr h1 hsrc hsr
        have hf := hfirst (Nat.min (srcLen (Ev t s)) n) (Nat.min_le_left _ _)
        have hrun := hgen _ _ _ _ hp hlen _ hf
        split at ha
        · rename_i h0
          injection ha with ha
          injection ha with e1 e2
          subst e1 e2
          refine Does.pure hr (v' := .int .i64 0) ?_ (.int _ _)
          rw [hrun, h0]
          simp [storeCells, goInt]
        · rename_i h0
          rw [Option.map_eq_some_iff] at ha
          obtain ⟨h2, hw2, ha⟩ := ha
          injection ha with e1 e2
          subst e1 e2
          unfold writeN at hw2
          split at hw2
          · rename_i blk hblk
            split at hw2
            · rename_i hle
              injection hw2 with hw2
              subst hw2
              obtain ⟨c, ce, lo, hi2, hwc, hcsz, hfz⟩ := hr.own b blk hblk
              have hfit := hr.fits b false blk hblk
              have hn0 : 0 < n := by
                rcases Nat.eq_zero_or_pos n with hz | hz
                · subst hz; exact absurd (Nat.min_zero _) h0
                · exact hz
              have hc3 := hcap (by omega)
              clear hcap
              obtain ⟨o', rfl, ho, hcap⟩ := hc3
              generalize hm : Nat.min (srcLen (Ev t s)) n = m at *
              have hml : m ≤ srcLen (Ev t s) := by rw [← hm]; exact Nat.min_le_left _ _
              have hms : m * i.size ≤ srcLen (Ev t s) * i.size := Nat.mul_le_mul_right _ hml
              have hl1 : (cs.take (m * i.size)).length = m * i.size := by rw [List.length_take, hnl]; omega
              have hl2 : (cs'.take (m * i.size)).length = m * i.size := by rw [List.length_take, ← hcr.1, hnl]; omega
              rw [hl1] at hle
              obtain ⟨c2, hrun2, hs2, hget⟩ := run_storeCells (P := P) (ι b).blk o' ce lo hi2 (cs'.take (m * i.size)) 0 c w hwc (by rw [hl2, ho hn0]; omega) hfz (fun u hu => hone u (List.mem_of_mem_take hu))
              have hcr2 := crel_take hcr (m * i.size)
              refine Does.value (v' := .int .i64 m) (w' := setBlk w (ι b).blk (.cells c2 ce (lo, hi2))) ?_ (step_write hr hblk hwc hs2 (by simp only [List.length_append, hl1, List.length_take, List.length_drop]; omega) ?_) (.int _ _)
              · rw [hrun]
                simp only [hrun2, Result.andThen_ok]
                rfl
              · intro j hj
                simp only [List.length_append, hl1, List.length_take, List.length_drop] at hj
                rw [hget, hl2]
                have hjc : j < blk.length := by omega
                have hon := ho hn0
                by_cases hoj : o ≤ j ∧ j < o + m * i.size
                · rw [if_pos (by omega)]
                  have hlt : j - o < (cs'.take (m * i.size)).length := by rw [hl2]; omega
                  have hlt2 : j - o < (cs.take (m * i.size)).length := by rw [hl1]; omega
                  refine ⟨(cs'.take (m * i.size))[j - o], ?_, ?_, hone _ (List.mem_of_mem_take (List.getElem_mem hlt))⟩
                  · rw [show (ι b).off + j - (o' + 0) = j - o by omega]
                    exact List.getElem?_eq_getElem hlt
                  · have h2 := hcr2.2 (j - o)
                    rw [getD_eq (List.getElem?_eq_getElem hlt), getD_eq (List.getElem?_eq_getElem hlt2)] at h2
                    rw [List.getElem_append_left (by simp only [List.length_append, hl1, List.length_take]; omega), List.getElem_append_right (by rw [List.length_take]; omega)]
                    have h3 : j - (List.take o blk).length = j - o := by rw [List.length_take]; omega
                    simp only [h3]
                    exact h2
                · rw [if_neg (by omega)]
                  obtain ⟨v', q1, q2, q3⟩ := hr.cell b false blk hblk j hjc
                  refine ⟨v', ?_, ?_, q3⟩
                  · simpa [World.cell?, hwc] using q1
                  · rw [getD_eq (List.getElem?_eq_getElem hjc)] at q2
                    rcases Nat.lt_or_ge j o with hjo | hjo
                    · rw [List.getElem_append_left (by simp only [List.length_append, hl1, List.length_take]; omega), List.getElem_append_left (by rw [List.length_take]; omega)]
                      simpa using q2
                    · rw [List.getElem_append_right (by simp only [List.length_append, hl1, List.length_take]; omega)]
                      simp only [List.getElem_drop]
                      have h3 : o + (cs.take (m * i.size)).length + (j - (List.take o blk ++ cs.take (m * i.size)).length) = j := by
                        rw [List.length_append, hl1, List.length_take]; omega
                      simp only [h3]
                      exact q2
            · cases hw2
          · cases hw2
    · cases ha
  · cases ha

/-! ### Strings and bytes -/
theorem op_strBytes {x : Operand} {e e' el : TypeId} (hr : Rel ι h w) (he : ERel ι h.length t ρ) (hox : operOk x = true) (hu : P.underlying e = some .string) (hu2 : P.underlying e' = some (.slice el)) (hu3 : P.underlying el = some (.int .u8))
    (hx : aOp (.strBytes x) t h = some (v, h')) :
    Does P (execOp ρ ⟨d, .convert e e' x, ty, pos, af, g⟩) ι h w v h' := by
  simp only [aOp] at hx
  have hxr := he x hox
  split at hx
  · rename_i s heq
    injection hx with hx
    injection hx with h1 h2
    subst h1 h2
    rw [heq] at hxr
    have hq : s.size ≤ (Question.appendCap s.size 0 el).cut (w.tape w.drawn (Question.appendCap s.size 0 el)) := by
      simp only [Question.cut]
      exact Nat.le_add_right _ _
    generalize hqq : (Question.appendCap s.size 0 el).cut (w.tape w.drawn (Question.appendCap s.size 0 el)) = q at hq
    have hds : s.data.size = s.size := rfl
    obtain ⟨c, hc⟩ : ∃ c : Array Value, c = (s.data.map fun b => Value.int .u8 b.toNat) ++ Array.replicate (q - s.size) (Value.int .u8 0) := ⟨_, rfl⟩
    have hcs : c.size = q := by rw [hc]; simp only [Array.size_append, Array.size_map, Array.size_replicate]; omega
    have hst := step_new hr (s.data.toList.map fun b => Value.int .u8 b.toNat) c el q (q + 1) (w.drawn + 1) (by simp only [List.length_map, Array.length_toList]; omega) (fun i p1 p2 => by
      have hi : i < s.data.size := by simpa using p1
      have e1 : c[i] = Value.int .u8 (s.data[i]).toNat := by
        subst hc
        rw [Array.getElem_append_left (by simpa using hi)]
        simp
      rw [e1]
      simp only [List.getElem_map, Array.getElem_toList]
      exact ⟨.int _ _, rfl⟩) (fun o ho => by omega)
    refine Does.value (s := convert e e' (ρ x)) (v' := .slice (some ⟨w.heap.size, 0, none⟩) s.size q) ?_ hst ?_
    · rw [hxr.string_inv]
      simp only [convert, Sem.run_bind, run_under hu, run_under hu2, Result.andThen_ok, run_under hu3, Conv.stringToBytes, run_choose, Question.forced, Bool.false_eq_true, if_false, hqq, newRow, run_newObj, Sem.run_pure, markStringish, run_shape]
      have hshape : World.shape? { w with heap := w.heap.push (.cells c el (0, 0)), drawn := w.drawn + 1 } w.heap.size = some (el, q) := by
        simp [World.shape?, hcs]
      have hfre : ({ w with heap := w.heap.push (.cells c el (0, 0)), drawn := w.drawn + 1 } : World).freeze ⟨w.heap.size, q, none⟩ 1 = { w with heap := w.heap.push (.cells c el (q, q + 1)), drawn := w.drawn + 1 } := by
        unfold World.freeze
        simp only [Nat.one_ne_zero, if_false]
        congr 1
        apply Array.ext_getElem?
        intro i
        rw [Array.getElem?_modify]
        simp only [Array.getElem?_push]
        by_cases hi : w.heap.size = i
        · subst hi
          simp
        · simp [hi, Ne.symm hi]
      rw [← hc]
      simp only [hshape, run_freeze, Result.andThen_ok]
      rw [hfre]
    · have hsz2 : (ι.set h.length ⟨w.heap.size, 0, c.size⟩) h.length = ⟨w.heap.size, 0, c.size⟩ := Inj.set_same
      have := VRel.mkSlice (ι := ι.set h.length ⟨w.heap.size, 0, c.size⟩) (n := (newBlk h (s.data.toList.map fun b => Value.int .u8 b.toNat)).length) h.length 0 s.size 1 0 q (by rw [length_new]; omega) (fun _ => by rw [hsz2]) hq (by rw [hsz2, hcs]; simp)
      rwa [hsz2] at this
  · cases hx

theorem run_pushAll {P : Program} {w : World} (F : Value → ByteArray → Sem (ForInStep ByteArray)) (hF : ∀ (n : Int) (s : ByteArray), F (.int .u8 n) s = Pure.pure (ForInStep.yield (s.push (UInt8.ofNat n.toNat)))) :
    ∀ (l : List Value) (acc : ByteArray), (∀ v ∈ l, ∃ n : Int, v = .int .u8 n) →
    (forIn l acc F).run P w = .ok ⟨acc.data ++ (l.map fun v => match v with | .int _ n => UInt8.ofNat n.toNat | _ => 0).toArray⟩ w
  | [], acc, _ => by simp
  | v :: l, acc, h => by
    obtain ⟨n, rfl⟩ := h v (by simp)
    rw [List.forIn_cons, hF]
    simp only [pure_bind]
    rw [run_pushAll F hF l _ (fun u hu => h u (by simp [hu]))]
    congr 2
    simp [ByteArray.push]

theorem op_bytesStr {x : Operand} {e e' el : TypeId} (hr : Rel ι h w) (he : ERel ι h.length t ρ) (hox : operOk x = true) (hu : P.underlying e = some (.slice el)) (hu2 : P.underlying e' = some .string) (hu3 : P.underlying el = some (.int .u8))
    (hx : aOp (.bytesStr x) t h = some (v, h')) :
    Does P (execOp ρ ⟨d, .convert e e' x, ty, pos, af, g⟩) ι h w v h' := by
  simp only [aOp] at hx
  have hxr := he x hox
  split at hx
  · rename_i cs hsrc
    split at hx
    · rename_i hall
      obtain ⟨hns, hall⟩ := hall
      injection hx with hx
      injection hx with h1 h2
      subst h1 h2
      obtain ⟨hlen, hnl, cs', hcr, hone, hfirst⟩ := src_sound (P := P) hr (Nat.le_refl 1) hsrc hxr
      have hbytes : ∀ v ∈ cs, ∃ n : Int, v = .int .u8 n := by
        intro v hv
        have := List.all_eq_true.1 hall v hv
        split at this
        · exact ⟨_, rfl⟩
        · cases this
      have hsame : cs' = cs := by
        apply List.ext_getElem hcr.1.symm
        intro i p1 p2
        obtain ⟨n, hn⟩ := hbytes cs[i] (List.getElem_mem p2)
        have := hcr.2 i
        rw [getD_eq (List.getElem?_eq_getElem p2), getD_eq (List.getElem?_eq_getElem p1), hn] at this
        rw [this.int_inv, hn]
      subst hsame
      refine Does.pure (s := convert e e' (ρ x)) hr (v' := .string ⟨(cs'.map fun v => match v with | .int _ n => UInt8.ofNat n.toNat | _ => 0).toArray⟩) ?_ (.string _)
      unfold srcCells at hsrc
      split at hsrc
      · rename_i heq
        injection hsrc with hsrc
        subst hsrc
        rw [heq] at hxr
        obtain ⟨_, _, hp⟩ := hxr.nilSlice_inv
        rw [hp]
        simp only [convert, Sem.run_bind, run_under hu, run_under hu2, Result.andThen_ok, run_under hu3]
        rfl
      · rename_i b o n s heq
        split at hsrc
        · rename_i hs1
          subst hs1
          rw [heq] at hxr
          obtain ⟨hb, a, cap, hp, hl, hc⟩ := hxr.slice_inv
          have hf := hfirst n (by rw [heq]; exact Nat.le_refl _)
          rw [hp] at hf ⊢
          simp only [Builtin.firstCells, Nat.mul_one] at hf
          have hlen2 : cs'.length = n := by rw [hnl, heq]; simp [srcLen]
          rw [← hlen2, List.take_length] at hf
          rw [hlen2] at hf
          simp only [convert, Sem.run_bind, run_under hu, run_under hu2, Result.andThen_ok, run_under hu3, Conv.bytesToString, hf]
          rw [List.forIn_toArray, run_pushAll _ (fun _ _ => rfl) cs' ByteArray.empty hbytes]
          simp only [Result.andThen_ok, Sem.run_pure]
          congr 3
          simp [ByteArray.empty, ByteArray.emptyWithCapacity]
          rfl
        · cases hsrc
      · rename_i heq
        rw [heq] at hns
        cases hns
      · cases hsrc
    · cases hx
  · cases hx

end
end Go.Wb

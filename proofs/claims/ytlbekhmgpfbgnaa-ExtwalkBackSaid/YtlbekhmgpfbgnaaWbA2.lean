import Derived.Test.YtlbekhmgpfbgnaaWbA1
import Derived.Orders
import Derived.Below
set_option linter.all false
namespace Go.Wb
open Go
section
variable {P : Program} {ι : Inj} {h h' : Heap} {w : World} {t : T} {ρ : Operand → Value} {v : Value} {d : Option Tmp} {ty : TypeId} {pos : String} {af : Array Edge} {g : Option (Nat × Bool)}
theorem callB_len {args : Array Operand} {ats : Array TypeId} : execOp ρ ⟨d, .call ⟨.builtin .len, args, ats⟩, ty, pos, af, g⟩ = (do Pure.pure (.value (← Builtin.len_ ats ty (args.map ρ)))) := rfl
theorem callB_max {args : Array Operand} {ats : Array TypeId} : execOp ρ ⟨d, .call ⟨.builtin .max, args, ats⟩, ty, pos, af, g⟩ = (do Pure.pure (.value (← Builtin.max_ ats ty (args.map ρ)))) := rfl
theorem callB_min {args : Array Operand} {ats : Array TypeId} : execOp ρ ⟨d, .call ⟨.builtin .min, args, ats⟩, ty, pos, af, g⟩ = (do Pure.pure (.value (← Builtin.min_ ats ty (args.map ρ)))) := rfl
theorem callB_append {args : Array Operand} {ats : Array TypeId} : execOp ρ ⟨d, .call ⟨.builtin .append, args, ats⟩, ty, pos, af, g⟩ = (do Pure.pure (.value (← Builtin.append_ ats ty (args.map ρ)))) := rfl
theorem callB_copy {args : Array Operand} {ats : Array TypeId} : execOp ρ ⟨d, .call ⟨.builtin .copy, args, ats⟩, ty, pos, af, g⟩ = (do Pure.pure (.value (← Builtin.copy_ ats ty (args.map ρ)))) := rfl
theorem op_len {x : Operand} {e el : TypeId} (hr : Rel ι h w) (he : ERel ι h.length t ρ) (hox : operOk x = true) (hu : P.underlying e = some (.slice el)) (hx : aOp (.len x) t h = some (v, h')) :
 Does P (execOp ρ ⟨d, .call ⟨.builtin .len, #[x], #[e]⟩, ty, pos, af, g⟩) ι h w v h' := by
 rw [callB_len]
 simp only [aOp] at hx
 have hxr := he x hox
 split at hx
 ·rename_i a n m heq
  injection hx with hx
  injection hx with h1 h2
  subst h1 h2
  rw [heq] at hxr
  generalize hy : ρ x = y at hxr
  refine Does.pure (s := Builtin.len_ #[e] ty (#[x].map ρ)) hr (v' := .int .i64 n) ?_ (.int _ _)
  rw [show #[x].map ρ = #[ρ x] from by simp, hy]
  cases hxr with
  | nilSlice => simp [Builtin.len_, run_under hu, goInt]
  | slice b o len s a cap hb hl hc => simp [Builtin.len_, run_under hu, goInt]
 ·cases hx
theorem op_lenStr {x : Operand} {e : TypeId} (hr : Rel ι h w) (he : ERel ι h.length t ρ) (hox : operOk x = true) (hu : P.underlying e = some .string) (hx : aOp (.lenStr x) t h = some (v, h')) :
 Does P (execOp ρ ⟨d, .call ⟨.builtin .len, #[x], #[e]⟩, ty, pos, af, g⟩) ι h w v h' := by
 rw [callB_len]
 simp only [aOp] at hx
 have hxr := he x hox
 split at hx
 ·rename_i s heq
  injection hx with hx
  injection hx with h1 h2
  subst h1 h2
  rw [heq] at hxr
  refine Does.pure (s := Builtin.len_ #[e] ty (#[x].map ρ)) hr (v' := .int .i64 s.size) ?_ (.int _ _)
  rw [show #[x].map ρ = #[ρ x] from by simp, hxr.string_inv]
  simp [Builtin.len_, run_under hu, goInt]
 ·cases hx
theorem op_lenArr {x : Operand} {e : TypeId} {n : Nat} (hr : Rel ι h w) (hu : (∃ el, P.underlying e = some (.array n el)) ∨ ∃ a el, P.underlying e = some (.pointer a) ∧ P.underlying a = some (.array n el)) (hx : aOp (.const (.int .i64 n)) t h = some (v, h')) :
 Does P (execOp ρ ⟨d, .call ⟨.builtin .len, #[x], #[e]⟩, ty, pos, af, g⟩) ι h w v h' := by
 rw [callB_len]
 simp only [aOp] at hx
 injection hx with hx
 injection hx with h1 h2
 subst h1 h2
 refine Does.pure (s := Builtin.len_ #[e] ty (#[x].map ρ)) hr (v' := .int .i64 n) ?_ (.int _ _)
 rw [show #[x].map ρ = #[ρ x] from by simp]
 rcases hu with ⟨el, hu⟩ | ⟨a, el, hu, hu2⟩
 ·simp [Builtin.len_, run_under hu, goInt]
 ·simp [Builtin.len_, run_under hu, run_under hu2, goInt]
theorem op_max2 {x y : Operand} {ats : Array TypeId} (hr : Rel ι h w) (he : ERel ι h.length t ρ) (hox : operOk x = true) (hoy : operOk y = true) (hx : aOp (.max2 x y) t h = some (v, h')) :
 Does P (execOp ρ ⟨d, .call ⟨.builtin .max, #[x, y], ats⟩, ty, pos, af, g⟩) ι h w v h' := by
 rw [callB_max]
 simp only [aOp] at hx
 have hxr := he x hox
 have hyr := he y hoy
 split at hx
 ·rename_i k a k' b heq1 heq2
  injection hx with hx
  injection hx with h1 h2
  subst h1 h2
  rw [heq1] at hxr
  rw [heq2] at hyr
  refine Does.pure (s := Builtin.max_ ats ty (#[x, y].map ρ)) hr (v' := .int k (if b > a then b else a)) ?_ (.int _ _)
  rw [show #[x, y].map ρ = #[ρ x, ρ y] from by simp, hxr.int_inv, hyr.int_inv]
  simp [Builtin.max_, Builtin.max2]
 ·cases hx
theorem op_min2 {x y : Operand} {ats : Array TypeId} (hr : Rel ι h w) (he : ERel ι h.length t ρ) (hox : operOk x = true) (hoy : operOk y = true) (hx : aOp (.min2 x y) t h = some (v, h')) :
 Does P (execOp ρ ⟨d, .call ⟨.builtin .min, #[x, y], ats⟩, ty, pos, af, g⟩) ι h w v h' := by
 rw [callB_min]
 simp only [aOp] at hx
 have hxr := he x hox
 have hyr := he y hoy
 split at hx
 ·rename_i k a k' b heq1 heq2
  injection hx with hx
  injection hx with h1 h2
  subst h1 h2
  rw [heq1] at hxr
  rw [heq2] at hyr
  refine Does.pure (s := Builtin.min_ ats ty (#[x, y].map ρ)) hr (v' := .int k (if b < a then b else a)) ?_ (.int _ _)
  rw [show #[x, y].map ρ = #[ρ x, ρ y] from by simp, hxr.int_inv, hyr.int_inv]
  simp [Builtin.min_, Builtin.min2]
 ·cases hx
theorem src_sound {size : Nat} {x x' : Value} {cs : List Value} (hr : Rel ι h w) (h1 : 1 ≤ size) (hs : srcCells h size x = some cs) (hx : VRel ι h.length x x') :
 (Builtin.lenOf x').run P w = .ok (srcLen x) w ∧ cs.length = srcLen x * size ∧
 ∃ cs', CRel ι h.length cs cs' ∧ (∀ u ∈ cs', u.oneCell' = true) ∧ ∀ m, m ≤ srcLen x → (Builtin.firstCells size m x').run P w = .ok (cs'.take (m * size)).toArray w := by
 unfold srcCells at hs
 split at hs
 ·injection hs with hs
  subst hs
  cases hx
  refine ⟨rfl, by simp [srcLen], [], ⟨rfl, fun _ => .undef⟩, by simp, fun m hm => ?_⟩
  simp only [srcLen] at hm
  have : m = 0 := by omega
  subst this
  simp [Builtin.firstCells]
 ·rename_i b o n s
  obtain ⟨hb, a, cap, hp, hl, hc⟩ := hx.slice_inv
  subst hp
  split at hs
  ·rename_i h0
   subst h0
   injection hs with hs
   subst hs
   refine ⟨rfl, by simp [srcLen], [], ⟨rfl, fun _ => .undef⟩, by simp, fun m hm => ?_⟩
   simp only [srcLen] at hm
   have : m = 0 := by omega
   subst this
   simp [Builtin.firstCells, loadCells, loadCellsFrom]
  ·rename_i h0
   split at hs
   ·rename_i hsz
    subst hsz
    obtain ⟨hlen, cs', hrel, hone, hcell⟩ := rel_cells hr hs
    refine ⟨rfl, hlen, cs', hrel, hone, fun m hm => ?_⟩
    have hc3 := hc (by omega)
    clear hc
    obtain ⟨o', rfl, ho, _⟩ := hc3
    rw [ho (by omega)]
    exact run_loadPrefix (n := n * s) (by rw [← hrel.1, hlen]) (Nat.mul_le_mul_right s hm) hcell
   ·cases hs
 ·rename_i s
  split at hs
  ·rename_i hsz
   subst hsz
   injection hs with hs
   subst hs
   cases hx
   refine ⟨rfl, by simp [srcLen], s.data.toList.map fun b => .int .u8 b.toNat, ?_, ?_, fun m hm => ?_⟩
   ·refine crel_of rfl fun i q1 q2 => ?_
    simp only [List.getElem_map]
    exact .int _ _
   ·intro u hu
    obtain ⟨b, _, rfl⟩ := List.mem_map.1 hu
    rfl
   ·simp only [Builtin.firstCells, Sem.run_pure]
    congr 1
    apply Array.ext'
    simp [ByteArray.data_extract]
  ·cases hs
 ·cases hs
theorem growBy_le (need : Nat) : ∀ (r c : Nat), 256 ≤ c → c ≤ 2 * need → Builtin.growBy need r c ≤ 2 * need
 | 0, c, _, hc => hc
 | r + 1, c, h1, hc => by
   simp only [Builtin.growBy]
   split
   ·exact hc
   ·exact growBy_le need r _ (by omega) (by omega)
theorem nextcap_le {need cap : Nat} (hlt : cap < need) : Builtin.nextslicecap need cap ≤ 2 * need := by
 unfold Builtin.nextslicecap
 split
 ·omega
 ·split
  ·omega
  ·exact growBy_le need 4 cap (by omega) (by omega)
theorem zeroCells_size (z : Array Value) (k : Nat) : (Builtin.zeroCells z k).size = k * z.size := by simp [Builtin.zeroCells]
theorem run_append {e el tx : TypeId} {s x : Value} {base : Option Addr} {n cap m : Nat} {i : TypeInfo} {z : Value} {dx : TypeDesc} (hu : P.underlying e = some (.slice el)) (hx : P.underlying tx = some dx) (hnx : (∃ e2, dx = .slice e2) ∨ dx = .string)
 (hi : P.info? el = some i) (hz : i.zero = some z) (hs : s = .slice base n cap) (hl : (Builtin.lenOf x).run P w = .ok m w) (hb : 1 ≤ i.bytes) :
 (n + m ≤ cap → ∀ (new : Array Value) (w' : World), (Builtin.firstCells i.size m x).run P w = .ok new w → (match base with | some a => (storeCells (a.add (n * i.size)) new.toList).run P w = .ok () w' | none => w' = w) →
  (Builtin.append_ #[e, tx] ty #[s, x]).run P w = .ok (.slice base (n + m) cap) w') ∧
 (cap < n + m → (n + m) * i.bytes ≤ lim47 → ∀ (old new : Array Value), (Builtin.firstCells i.size n s).run P { w with drawn := w.drawn + 1 } = .ok old { w with drawn := w.drawn + 1 } →
  (Builtin.firstCells i.size m x).run P { w with drawn := w.drawn + 1 } = .ok new { w with drawn := w.drawn + 1 } →
  ∃ k, (Builtin.append_ #[e, tx] ty #[s, x]).run P w = .ok (.slice (some ⟨w.heap.size, 0, none⟩) (n + m) (n + m + k)) { w with heap := w.heap.push (.cells (old ++ new ++ Builtin.zeroCells z.cells k) el (0, 0)), drawn := w.drawn + 1 }) := by
 subst hs
 have hgen : (Builtin.append_ #[e, tx] ty #[.slice base n cap, x]).run P w =
  if n + m ≤ cap then ((Builtin.firstCells i.size m x).run P w).andThen fun new w1 => match base with
   | some a => ((storeCells (a.add (n * i.size)) new.toList).run P w1).andThen fun _ w2 => .ok (.slice base (n + m) cap) w2
   | none => .ok (.slice base (n + m) cap) w1
  else if Builtin.nextslicecap (n + m) cap * i.bytes > 2 ^ 48 then (Builtin.append_ #[e, tx] ty #[.slice base n cap, x]).run P w
  else ((choose (.appendCap (n + m) cap el)).run P w).andThen fun newCap w1 => ((Builtin.firstCells i.size n (.slice base n cap)).run P w1).andThen fun old w2 =>
   ((Builtin.firstCells i.size m x).run P w2).andThen fun new w3 =>
   .ok (.slice (some ⟨w3.heap.size, 0, none⟩) (n + m) newCap) { w3 with heap := w3.heap.push (.cells (old ++ new ++ Builtin.zeroCells z.cells (newCap - (n + m))) el (0, 0)) } := by
  by_cases hbig : n + m ≤ cap
  ·rw [if_pos hbig]
   conv => lhs; unfold Builtin.append_
   rcases hnx with ⟨e2, rfl⟩ | rfl <;>
   ·simp only [List.getElem?_toArray, List.getElem?_cons_zero, List.getElem?_cons_succ, Sem.run_bind, run_under hu, Result.andThen_ok, run_size hi, run_under hx, Sem.run_pure, Bool.false_eq_true, if_false, hl, Bool.not_false, if_true, Sem.run_ite, if_pos hbig]
    congr 1
    funext new w1
    cases base <;> simp
  ·rw [if_neg hbig]
   by_cases hbytes : Builtin.nextslicecap (n + m) cap * i.bytes > 2 ^ 48
   ·rw [if_pos hbytes]
   ·rw [if_neg hbytes]
    have hb0 : ¬ (i.bytes = 0) := by omega
    conv => lhs; unfold Builtin.append_
    rcases hnx with ⟨e2, rfl⟩ | rfl <;>
    ·simp only [List.getElem?_toArray, List.getElem?_cons_zero, List.getElem?_cons_succ, Sem.run_bind, run_under hu, Result.andThen_ok, run_size hi, run_under hx, Sem.run_pure, Bool.false_eq_true, if_false, hl, Bool.not_false, if_true, Sem.run_ite, if_neg hbig, run_info hi, hb0, or_self, and_false, run_askRoom, run_zero hi hz, newRow, run_newObj]
     rw [if_neg hbytes]
 constructor
 ·intro hle new w' hn hst
  rw [hgen, if_pos hle, hn]
  simp only [Result.andThen_ok]
  cases base with
  | none => simp only at hst; subst hst; rfl
  | some a => simp only at hst; simp only [hst, Result.andThen_ok]
 ·intro hlt hb47 old new ho hn
  have hbytes : ¬ (Builtin.nextslicecap (n + m) cap * i.bytes > 2 ^ 48) := by
   have h1 := nextcap_le hlt
   have h2 : Builtin.nextslicecap (n + m) cap * i.bytes ≤ 2 * (n + m) * i.bytes := Nat.mul_le_mul_right _ h1
   have h3 : 2 * (n + m) * i.bytes = 2 * ((n + m) * i.bytes) := Nat.mul_assoc _ _ _
   have h4 : (2 : Nat) ^ 48 = 2 * lim47 := by decide
   rw [h4]
   generalize lim47 = L at *
   generalize (n + m) * i.bytes = q at *
   omega
  rw [hgen, if_neg (by omega), if_neg hbytes]
  simp only [run_choose, Question.forced, Bool.false_eq_true, if_false, Result.andThen_ok]
  rw [ho]
  simp only [Result.andThen_ok]
  rw [hn]
  simp only [Result.andThen_ok]
  have hq : n + m ≤ (Question.appendCap (n + m) cap el).cut (w.tape w.drawn (Question.appendCap (n + m) cap el)) := by
   simp only [Question.cut]
   exact Nat.le_add_right _ _
  generalize (Question.appendCap (n + m) cap el).cut (w.tape w.drawn (Question.appendCap (n + m) cap el)) = q at hq
  refine ⟨q - (n + m), ?_⟩
  rw [show n + m + (q - (n + m)) = q by omega]
theorem cells_push {cs : List Value} {c : Array Value} {n : Nat} (hc : CRel ι n cs c.toList) {i : Nat} (h1 : i < cs.length) (h2 : i < c.size) : VRel ι n cs[i] c[i] := by
 have := hc.2 i
 rw [getD_eq (List.getElem?_eq_getElem h1), getD_eq (List.getElem?_eq_getElem (by simpa using h2))] at this
 simpa using this
theorem append_new {cs : List Value} {old new spare : Array Value} {cs1 cs2 : List Value} {el : TypeId} {n size : Nat} (hr : Rel ι h w) (h1 : CRel ι h.length cs1 old.toList) (h2 : CRel ι h.length cs2 new.toList)
 (o1 : ∀ u ∈ old.toList, u.oneCell' = true) (o2 : ∀ u ∈ new.toList, u.oneCell' = true) (hcs : cs = cs1 ++ cs2) {k : Nat} (hsz : (old ++ new ++ spare).size = (n + k) * size) (dr : Nat) :
 Step ι h w (ι.set h.length ⟨w.heap.size, 0, (old ++ new ++ spare).size⟩) (newBlk h cs) { w with heap := w.heap.push (.cells (old ++ new ++ spare) el (0, 0)), drawn := dr } ∧
 VRel (ι.set h.length ⟨w.heap.size, 0, (old ++ new ++ spare).size⟩) (newBlk h cs).length (.slice (some ⟨h.length, 0, none⟩) n size) (.slice (some ⟨w.heap.size, 0, none⟩) n (n + k)) := by
 have hall := crel_append h1 h2
 have hl := hall.1
 subst hcs
 simp only [List.length_append, Array.length_toList] at hl
 constructor
 ·refine step_new hr (cs1 ++ cs2) (old ++ new ++ spare) el 0 0 dr (by simp; omega) (fun i p1 p2 => ?_) (fun o _ => by omega)
  have p3 : i < (old ++ new).size := by simp at p1 ⊢; omega
  have e : (old ++ new ++ spare)[i] = (old ++ new)[i] := Array.getElem_append_left p3
  rw [e]
  refine ⟨cells_push (by simpa using hall) p1 p3, ?_⟩
  have hm : (old ++ new)[i] ∈ (old ++ new) := Array.getElem_mem p3
  rw [Array.mem_append] at hm
  rcases hm with hm | hm
  ·exact o1 _ (Array.mem_toList_iff.2 hm)
  ·exact o2 _ (Array.mem_toList_iff.2 hm)
 ·have hsz2 : (ι.set h.length ⟨w.heap.size, 0, (old ++ new ++ spare).size⟩) h.length = ⟨w.heap.size, 0, (old ++ new ++ spare).size⟩ := Inj.set_same
  have := VRel.mkSlice (ι := ι.set h.length ⟨w.heap.size, 0, (old ++ new ++ spare).size⟩) (n := (newBlk h (cs1 ++ cs2)).length) h.length 0 n size 0 (n + k) (by rw [length_new]; omega) (fun _ => by rw [hsz2]) (by omega) (by rw [hsz2, hsz]; simp)
  rwa [hsz2] at this
theorem op_append {s x : Operand} {e el tx : TypeId} {dx : TypeDesc} {i : TypeInfo} {z : Value} (hr : Rel ι h w) (he : ERel ι h.length t ρ) (hos : operOk s = true) (hox : operOk x = true)
 (hu : P.underlying e = some (.slice el)) (hx : P.underlying tx = some dx) (hnx : (∃ e2, dx = .slice e2) ∨ dx = .string) (hi : P.info? el = some i) (hz : i.zero = some z) (hzs : z.cells.size = i.size) (hb : 1 ≤ i.bytes) (h1 : 1 ≤ i.size)
 (ha : aOp (.append i.size i.bytes s x) t h = some (v, h')) :
 Does P (execOp ρ ⟨d, .call ⟨.builtin .append, #[s, x], #[e, tx]⟩, ty, pos, af, g⟩) ι h w v h' := by
 rw [callB_append, show #[s, x].map ρ = #[ρ s, ρ x] from by simp]
 simp only [aOp, aAppend] at ha
 split at ha
 ·cases ha
 ·rename_i new hsrc
  have hsr := he s hos
  have hxr := he x hox
  obtain ⟨hlen, hnl, new', hnew, hnone, hfirst⟩ := src_sound (P := P) hr h1 hsrc hxr
  have hrd := hr.drawn (w.drawn + 1)
  obtain ⟨_, _, new2, hnew2, hnone2, hfirst2⟩ := src_sound (P := P) hrd h1 hsrc hxr
  split at ha
  ·rename_i heq
   rw [heq] at hsr
   obtain ⟨_, _, hp⟩ := hsr.nilSlice_inv
   obtain ⟨r1, r2⟩ := run_append (P := P) (w := w) (ty := ty) hu hx hnx hi hz hp hlen hb
   split at ha
   ·rename_i h0
    injection ha with ha
    injection ha with e1 e2
    subst e1 e2
    have hf := hfirst 0 (by omega)
    rw [h0] at r1
    have := r1 (by omega) _ w hf rfl
    refine Does.pure hr this ?_
    rw [heq]
    exact .nilSlice
   ·rename_i h0
    split at ha
    ·rename_i hle
     injection ha with ha
     injection ha with e1 e2
     subst e1 e2
     have hf := hfirst2 (srcLen (Ev t x)) (Nat.le_refl _)
     have hl2 : new2.length = srcLen (Ev t x) * i.size := by rw [← hnew2.1, hnl]
     rw [← hl2, List.take_length] at hf
     obtain ⟨k, hrun⟩ := r2 (by omega) (by rw [Nat.zero_add]; exact hle) #[] new2.toArray (by rw [hp]; rfl) hf
     rw [Nat.zero_add] at hrun
     obtain ⟨hst, hv⟩ := append_new (cs := new) (old := #[]) (new := new2.toArray) (spare := Builtin.zeroCells z.cells k) (cs1 := []) (cs2 := new) (el := el) (n := srcLen (Ev t x)) (size := i.size) (k := k) hr ⟨rfl, fun _ => .undef⟩ hnew2 (by simp) (by simpa using hnone2) rfl
      (by simp [zeroCells_size, hl2, hzs, Nat.add_mul]) (w.drawn + 1)
     exact Does.value hrun hst hv
    ·cases ha
  ·rename_i b o n sz heq
   split at ha
   ·rename_i hsz
    subst hsz
    rw [heq] at hsr
    obtain ⟨hbl, a0, cap, hp, hcl, hcap⟩ := hsr.slice_inv
    obtain ⟨r1, r2⟩ := run_append (P := P) (w := w) (ty := ty) hu hx hnx hi hz hp hlen hb
    split at ha
    ·rename_i h0
     injection ha with ha
     injection ha with e1 e2
     subst e1 e2
     have hf := hfirst 0 (by omega)
     rw [h0] at r1
     have := r1 (by omega) _ w hf (by simp [storeCells])
     refine Does.pure hr this ?_
     rw [heq]
     exact .slice b o n i.size a0 cap hbl hcl hcap
    ·rename_i h0
     split at ha
     ·rename_i cs hcs
      split at ha
      ·rename_i hle
       obtain ⟨hle1, hle2⟩ := hle
       injection ha with ha
       injection ha with e1 e2
       subst e1 e2
       have hold : readN h b o (n * i.size) = some ((cs.drop o).take (n * i.size)) := by
        unfold readN
        rw [hcs]
        simp only
        rw [if_pos hle1]
       by_cases hfit : n + srcLen (Ev t x) ≤ cap
       ·have hc3 := hcap (by omega)
        clear hcap
        obtain ⟨o', rfl, ho, hcap⟩ := hc3
        obtain ⟨c, ce, lo, hi2, hwc, hcsz, hfz⟩ := hr.own b cs hcs
        have hf := hfirst (srcLen (Ev t x)) (Nat.le_refl _)
        have hl2 : new'.length = srcLen (Ev t x) * i.size := by rw [← hnew.1, hnl]
        rw [← hl2, List.take_length] at hf
        have hroom : o' + n * i.size + new'.length ≤ c.size := by
         rw [hl2, hcsz]
         have : n * i.size + srcLen (Ev t x) * i.size ≤ cap * i.size := by rw [← Nat.add_mul]; exact Nat.mul_le_mul_right _ hfit
         omega
        obtain ⟨c2, hrun, hs2, hget⟩ := run_storeCells (P := P) (ι b).blk (o' + n * i.size) ce lo hi2 new' 0 c w hwc (by omega) hfz hnone
        have hstore := r1 hfit _ _ hf (by simpa [addr_add] using hrun)
        obtain ⟨hol, old', hold1, hold2, hold3⟩ := rel_cells hr hold
        have hall := crel_append hold1 hnew
        have hstep := step_regrow (off := o') (cs2 := (cs.drop o).take (n * i.size) ++ new) hr hcs hwc hs2 (by rw [List.length_append, hol, hnl, ← hl2]; omega) (by
         intro j hj
         rw [List.length_append, hol, hnl] at hj
         rw [hget]
         by_cases hjn : j < n * i.size
         ·rw [if_neg (by omega)]
          have hn0 : 0 < n := by
           rcases Nat.eq_zero_or_pos n with hz0 | hz0
           ·subst hz0; simp at hjn
           ·exact hz0
          have hc3 := hold3 j hjn
          rw [← ho hn0] at hc3
          have hlo : j < old'.length := by rw [← hold1.1, hol]; exact hjn
          rw [getD_eq (List.getElem?_eq_getElem hlo)] at hc3
          refine ⟨old'[j], ?_, ?_, hold2 _ (List.getElem_mem hlo)⟩
          ·simpa [World.cell?, hwc] using hc3
          ·have hj2 : j < ((cs.drop o).take (n * i.size)).length := by rw [hol]; exact hjn
           have := hold1.2 j
           rw [getD_eq (List.getElem?_eq_getElem hj2), getD_eq (List.getElem?_eq_getElem hlo)] at this
           rw [List.getElem_append_left hj2]
           exact this
         ·rw [if_pos (by omega)]
          have hln : j - n * i.size < new'.length := by omega
          have hln2 : j - n * i.size < new.length := by rw [hnew.1]; exact hln
          refine ⟨new'[j - n * i.size], ?_, ?_, hnone _ (List.getElem_mem hln)⟩
          ·rw [show o' + j - (o' + n * i.size + 0) = j - n * i.size by omega]
           exact List.getElem?_eq_getElem hln
          ·have := hnew.2 (j - n * i.size)
           rw [getD_eq (List.getElem?_eq_getElem hln2), getD_eq (List.getElem?_eq_getElem hln)] at this
           rw [List.getElem_append_right (by rw [hol]; omega)]
           simp only [hol]
           exact this)
        refine Does.value hstore hstep ?_
        have hsz2 : (ι.set h.length ⟨(ι b).blk, o', c.size⟩) h.length = ⟨(ι b).blk, o', c.size⟩ := Inj.set_same
        have := VRel.mkSlice (ι := ι.set h.length ⟨(ι b).blk, o', c.size⟩) (n := (newBlk (h.set b .dead) ((cs.drop o).take (n * i.size) ++ new)).length) h.length 0 (n + srcLen (Ev t x)) i.size o' cap (by rw [length_new, List.length_set]; omega) (fun _ => by rw [hsz2]; rfl) hfit (by rw [hsz2, hcsz]; exact hcap)
        rwa [hsz2] at this
       ·have hkill := step_kill hr hcs
        have hf := hfirst2 (srcLen (Ev t x)) (Nat.le_refl _)
        have hl2 : new2.length = srcLen (Ev t x) * i.size := by rw [← hnew2.1, hnl]
        rw [← hl2, List.take_length] at hf
        obtain ⟨hol, old', hold1, hold2, hold3⟩ := rel_cells hrd hold
        have hol' : old'.length = n * i.size := by rw [← hold1.1, hol]
        have hfo : (Builtin.firstCells i.size n (ρ s)).run P { w with drawn := w.drawn + 1 } = .ok old'.toArray { w with drawn := w.drawn + 1 } := by
         rw [hp]
         simp only [Builtin.firstCells]
         rcases Nat.eq_zero_or_pos n with hz0 | hz0
         ·subst hz0
          have : old' = [] := List.eq_nil_of_length_eq_zero (by simpa using hol')
          subst this
          simp [loadCells, loadCellsFrom]
         ·have hc3 := hcap (by omega)
          clear hcap
          obtain ⟨o', rfl, ho, _⟩ := hc3
          rw [ho hz0, run_loadPrefix hol' (Nat.le_refl _) hold3, ← hol', List.take_length]
        obtain ⟨k, hrun⟩ := r2 (by omega) hle2 old'.toArray new2.toArray hfo hf
        obtain ⟨hst, hv⟩ := append_new (h := h.set b .dead) (cs := (cs.drop o).take (n * i.size) ++ new) (old := old'.toArray) (new := new2.toArray) (spare := Builtin.zeroCells z.cells k) (cs1 := (cs.drop o).take (n * i.size)) (cs2 := new) (el := el) (n := n + srcLen (Ev t x)) (size := i.size) (k := k)
         hkill.rel (by rw [List.length_set]; simpa using hold1) (by rw [List.length_set]; simpa using hnew2) (by simpa using hold2) (by simpa using hnone2) rfl (by simp [zeroCells_size, hol', hl2, hzs, Nat.add_mul]) (w.drawn + 1)
        rw [List.length_set] at hst hv
        exact Does.value hrun (hkill.trans hst) hv
      ·cases ha
     ·cases ha
   ·cases ha
  ·cases ha
theorem op_appendS {s x : Operand} {e el tx : TypeId} {dx : TypeDesc} {i : TypeInfo} {z : Value} (hr : Rel ι h w) (he : ERel ι h.length t ρ) (hos : operOk s = true) (hox : operOk x = true)
 (hu : P.underlying e = some (.slice el)) (hx : P.underlying tx = some dx) (hnx : (∃ e2, dx = .slice e2) ∨ dx = .string) (hi : P.info? el = some i) (hz : i.zero = some z) (hzs : z.cells.size = i.size) (hb : 1 ≤ i.bytes) (h1 : 1 ≤ i.size)
 (ha : aOp (.appendS i.size i.bytes s x) t h = some (v, h')) :
 Does P (execOp ρ ⟨d, .call ⟨.builtin .append, #[s, x], #[e, tx]⟩, ty, pos, af, g⟩) ι h w v h' := by
 rw [callB_append, show #[s, x].map ρ = #[ρ s, ρ x] from by simp]
 simp only [aOp, aAppendS] at ha
 split at ha
 ·cases ha
 ·rename_i new hsrc
  have hsr := he s hos
  have hxr := he x hox
  obtain ⟨hlen, hnl, new', hnew, hnone, hfirst⟩ := src_sound (P := P) hr h1 hsrc hxr
  have hrd := hr.drawn (w.drawn + 1)
  obtain ⟨_, _, new2, hnew2, hnone2, hfirst2⟩ := src_sound (P := P) hrd h1 hsrc hxr
  split at ha
  ·rename_i b n sz heq
   split at ha
   ·rename_i hsz
    obtain ⟨hsz, h0⟩ := hsz
    subst hsz
    rw [heq] at hsr
    obtain ⟨hbl, a0, cap, hp, hcl, hcap⟩ := hsr.slice_inv
    obtain ⟨r1, r2⟩ := run_append (P := P) (w := w) (ty := ty) hu hx hnx hi hz hp hlen hb
    split at ha
    ·rename_i cs hcs
     split at ha
     ·rename_i hle
      obtain ⟨hle1, hle2⟩ := hle
      injection ha with ha
      injection ha with e1 e2
      subst e1 e2
      have hold : readN h b 0 (n * i.size) = some cs := by
       unfold readN
       rw [hcs]
       simp only
       rw [if_pos (by omega), hle1, List.drop_zero, List.take_length]
      by_cases hfit : n + srcLen (Ev t x) ≤ cap
      ·have hc3 := hcap (by omega)
       clear hcap
       obtain ⟨o', rfl, ho, hcap⟩ := hc3
       simp only [Nat.add_zero] at ho
       obtain ⟨c, ce, lo, hi2, hwc, hcsz, hfz⟩ := hr.own b cs hcs
       have hf := hfirst (srcLen (Ev t x)) (Nat.le_refl _)
       have hl2 : new'.length = srcLen (Ev t x) * i.size := by rw [← hnew.1, hnl]
       rw [← hl2, List.take_length] at hf
       have hroom : o' + n * i.size + new'.length ≤ c.size := by
        rw [hl2, hcsz]
        have : n * i.size + srcLen (Ev t x) * i.size ≤ cap * i.size := by rw [← Nat.add_mul]; exact Nat.mul_le_mul_right _ hfit
        omega
       obtain ⟨c2, hrun, hs2, hget⟩ := run_storeCells (P := P) (ι b).blk (o' + n * i.size) ce lo hi2 new' 0 c w hwc (by omega) hfz hnone
       have hstore := r1 hfit _ _ hf (by simpa [addr_add] using hrun)
       obtain ⟨hol, old', hold1, hold2, hold3⟩ := rel_cells hr hold
       have hall := crel_append hold1 hnew
       have hstep := step_regrow (off := o') (cs2 := cs ++ new) hr hcs hwc hs2 (by rw [List.length_append, hol, hnl, ← hl2]; omega) (by
        intro j hj
        rw [List.length_append, hol, hnl] at hj
        rw [hget]
        by_cases hjn : j < n * i.size
        ·rw [if_neg (by omega)]
         have hn0 : 0 < n := by
          rcases Nat.eq_zero_or_pos n with hz0 | hz0
          ·subst hz0; simp at hjn
          ·exact hz0
         have hc3 := hold3 j hjn
         rw [← ho hn0] at hc3
         have hlo : j < old'.length := by rw [← hold1.1, hol]; exact hjn
         rw [getD_eq (List.getElem?_eq_getElem hlo)] at hc3
         refine ⟨old'[j], ?_, ?_, hold2 _ (List.getElem_mem hlo)⟩
         ·simpa [World.cell?, hwc] using hc3
         ·have hj2 : j < (cs).length := by rw [hol]; exact hjn
          have := hold1.2 j
          rw [getD_eq (List.getElem?_eq_getElem hj2), getD_eq (List.getElem?_eq_getElem hlo)] at this
          rw [List.getElem_append_left hj2]
          exact this
        ·rw [if_pos (by omega)]
         have hln : j - n * i.size < new'.length := by omega
         have hln2 : j - n * i.size < new.length := by rw [hnew.1]; exact hln
         refine ⟨new'[j - n * i.size], ?_, ?_, hnone _ (List.getElem_mem hln)⟩
         ·rw [show o' + j - (o' + n * i.size + 0) = j - n * i.size by omega]
          exact List.getElem?_eq_getElem hln
         ·have := hnew.2 (j - n * i.size)
          rw [getD_eq (List.getElem?_eq_getElem hln2), getD_eq (List.getElem?_eq_getElem hln)] at this
          rw [List.getElem_append_right (by rw [hol]; omega)]
          simp only [hol]
          exact this)
       have hkeep := step_keep hr hcs hstep (by
        intro q hq
        rw [cell_setBlk (lt_of_get hwc), if_pos rfl]
        simp only [Option.isSome_none, Bool.false_eq_true, if_false]
        rw [hget, if_neg (by
         have hn0 : 0 < n := by
          rcases Nat.eq_zero_or_pos n with hz0 | hz0
          ·subst hz0; simp at hle1; omega
          ·exact hz0
         rw [ho hn0]; omega)]
        simp [World.cell?, hwc]) (.inr (by rw [Inj.set_same]))
       refine Does.value hstore hkeep ?_
       have hsz2 : (ι.set h.length ⟨(ι b).blk, o', c.size⟩) h.length = ⟨(ι b).blk, o', c.size⟩ := Inj.set_same
       have := VRel.mkSlice (ι := ι.set h.length ⟨(ι b).blk, o', c.size⟩) (n := (newBlk (h.set b .dead) (cs ++ new)).length) h.length 0 (n + srcLen (Ev t x)) i.size o' cap (by rw [length_new, List.length_set]; omega) (fun _ => by rw [hsz2]; rfl) hfit (by rw [hsz2, hcsz]; exact hcap)
       rw [hsz2] at this
       simpa [newBlk] using this
      ·have hkill := step_kill hr hcs
       have hf := hfirst2 (srcLen (Ev t x)) (Nat.le_refl _)
       have hl2 : new2.length = srcLen (Ev t x) * i.size := by rw [← hnew2.1, hnl]
       rw [← hl2, List.take_length] at hf
       obtain ⟨hol, old', hold1, hold2, hold3⟩ := rel_cells hrd hold
       have hol' : old'.length = n * i.size := by rw [← hold1.1, hol]
       have hfo : (Builtin.firstCells i.size n (ρ s)).run P { w with drawn := w.drawn + 1 } = .ok old'.toArray { w with drawn := w.drawn + 1 } := by
        rw [hp]
        simp only [Builtin.firstCells]
        rcases Nat.eq_zero_or_pos n with hz0 | hz0
        ·subst hz0
         have : old' = [] := List.eq_nil_of_length_eq_zero (by simpa using hol')
         subst this
         simp [loadCells, loadCellsFrom]
        ·have hc3 := hcap (by omega)
         clear hcap
         obtain ⟨o', rfl, ho, _⟩ := hc3
         rw [ho hz0, run_loadPrefix hol' (Nat.le_refl _) hold3, ← hol', List.take_length]
       obtain ⟨k, hrun⟩ := r2 (by omega) hle2 old'.toArray new2.toArray hfo hf
       obtain ⟨hst, hv⟩ := append_new (h := h.set b .dead) (cs := cs ++ new) (old := old'.toArray) (new := new2.toArray) (spare := Builtin.zeroCells z.cells k) (cs1 := cs) (cs2 := new) (el := el) (n := n + srcLen (Ev t x)) (size := i.size) (k := k)
        hkill.rel (by rw [List.length_set]; simpa using hold1) (by rw [List.length_set]; simpa using hnew2) (by simpa using hold2) (by simpa using hnone2) rfl (by simp [zeroCells_size, hol', hl2, hzs, Nat.add_mul]) (w.drawn + 1)
       rw [List.length_set] at hst hv
       have hkeep := step_keep hr hcs (hkill.trans hst) (by
        intro q hq
        have hbw := own_lt hr ⟨b, cs, hcs, rfl⟩
        simp only [World.cell?]
        rw [Array.getElem?_push, if_neg (by omega)]) (.inl (by rw [Inj.set_same]; exact Nat.le_refl _))
       exact Does.value hrun hkeep (by simpa [newBlk] using hv)
     ·cases ha
    ·cases ha
   ·cases ha
  ·cases ha
theorem op_copy {dd s : Operand} {e el e2 : TypeId} {i : TypeInfo} (hr : Rel ι h w) (he : ERel ι h.length t ρ) (hod : operOk dd = true) (hos : operOk s = true)
 (hu : P.underlying e = some (.slice el)) (hi : P.info? el = some i) (h1 : 1 ≤ i.size) (ha : aOp (.copy i.size dd s) t h = some (v, h')) :
 Does P (execOp ρ ⟨d, .call ⟨.builtin .copy, #[dd, s], #[e, e2]⟩, ty, pos, af, g⟩) ι h w v h' := by
 rw [callB_copy, show #[dd, s].map ρ = #[ρ dd, ρ s] from by simp]
 simp only [aOp, aCopy] at ha
 have hdr := he dd hod
 have hsr := he s hos
 have hgen : ∀ (base : Option Addr) (n cap m : Nat), ρ dd = .slice base n cap → (Builtin.lenOf (ρ s)).run P w = .ok m w → ∀ (cells : Array Value), (Builtin.firstCells i.size (Nat.min m n) (ρ s)).run P w = .ok cells w →
  (Builtin.copy_ #[e, e2] ty #[ρ dd, ρ s]).run P w = (match base with | some a => ((storeCells a cells.toList).run P w).andThen fun _ w2 => .ok (goInt (Nat.min m n : Nat)) w2 | none => .ok (goInt (Nat.min m n : Nat)) w) := by
  intro base n cap m hb hl cells hc
  rw [hb]
  unfold Builtin.copy_
  simp only [List.getElem?_toArray, List.getElem?_cons_zero, List.getElem?_cons_succ, Sem.run_bind, run_under hu, Result.andThen_ok, hl, run_size hi, hc]
  cases base <;> simp
 split at ha
 ·rename_i heq
  split at ha
  ·cases ha
  ·rename_i cs hsrc
   injection ha with ha
   injection ha with e1 e2
   subst e1 e2
   rw [heq] at hdr
   obtain ⟨_, _, hp⟩ := hdr.nilSlice_inv
   obtain ⟨hlen, hnl, cs', hcr, hone, hfirst⟩ := src_sound (P := P) hr h1 hsrc hsr
   have hf := hfirst (Nat.min (srcLen (Ev t s)) 0) (Nat.min_le_left _ _)
   have hrun := hgen _ _ _ _ hp hlen _ hf
   refine Does.pure hr (v' := .int .i64 0) ?_ (.int _ _)
   rw [hrun]
   simp [goInt]
 ·rename_i b o n sz heq
  split at ha
  ·rename_i hsz
   subst hsz
   split at ha
   ·cases ha
   ·rename_i cs hsrc
    rw [heq] at hdr
    obtain ⟨hbl, a0, cap, hp, hcl, hcap⟩ := hdr.slice_inv
    obtain ⟨hlen, hnl, cs', hcr, hone, hfirst⟩ := src_sound (P := P) hr h1 hsrc hsr
    have hf := hfirst (Nat.min (srcLen (Ev t s)) n) (Nat.min_le_left _ _)
    have hrun := hgen _ _ _ _ hp hlen _ hf
    split at ha
    ·rename_i h0
     injection ha with ha
     injection ha with e1 e2
     subst e1 e2
     refine Does.pure hr (v' := .int .i64 0) ?_ (.int _ _)
     rw [hrun, h0]
     simp [storeCells, goInt]
    ·rename_i h0
     rw [Option.map_eq_some_iff] at ha
     obtain ⟨h2, hw2, ha⟩ := ha
     injection ha with e1 e2
     subst e1 e2
     unfold writeN at hw2
     split at hw2
     ·rename_i blk hblk
      split at hw2
      ·rename_i hle
       injection hw2 with hw2
       subst hw2
       obtain ⟨c, ce, lo, hi2, hwc, hcsz, hfz⟩ := hr.own b blk hblk
       have hfit := hr.fits b false blk hblk
       have hn0 : 0 < n := by
        rcases Nat.eq_zero_or_pos n with hz | hz
        ·subst hz; exact absurd (Nat.min_zero _) h0
        ·exact hz
       have hc3 := hcap (by omega)
       clear hcap
       obtain ⟨o', rfl, ho, hcap⟩ := hc3
       generalize hm : Nat.min (srcLen (Ev t s)) n = m at *
       have hml : m ≤ srcLen (Ev t s) := by rw [← hm]; exact Nat.min_le_left _ _
       have hms : m * i.size ≤ srcLen (Ev t s) * i.size := Nat.mul_le_mul_right _ hml
       have hl1 : (cs.take (m * i.size)).length = m * i.size := by rw [List.length_take, hnl]; omega
       have hl2 : (cs'.take (m * i.size)).length = m * i.size := by rw [List.length_take, ← hcr.1, hnl]; omega
       rw [hl1] at hle
       obtain ⟨c2, hrun2, hs2, hget⟩ := run_storeCells (P := P) (ι b).blk o' ce lo hi2 (cs'.take (m * i.size)) 0 c w hwc (by rw [hl2, ho hn0]; omega) hfz (fun u hu => hone u (List.mem_of_mem_take hu))
       have hcr2 := crel_take hcr (m * i.size)
       refine Does.value (v' := .int .i64 m) (w' := setBlk w (ι b).blk (.cells c2 ce (lo, hi2))) ?_ (step_write hr hblk hwc hs2 (by simp only [List.length_append, hl1, List.length_take, List.length_drop]; omega) ?_) (.int _ _)
       ·rw [hrun]
        simp only [hrun2, Result.andThen_ok]
        rfl
       ·intro j hj
        simp only [List.length_append, hl1, List.length_take, List.length_drop] at hj
        rw [hget, hl2]
        have hjc : j < blk.length := by omega
        have hon := ho hn0
        by_cases hoj : o ≤ j ∧ j < o + m * i.size
        ·rw [if_pos (by omega)]
         have hlt : j - o < (cs'.take (m * i.size)).length := by rw [hl2]; omega
         have hlt2 : j - o < (cs.take (m * i.size)).length := by rw [hl1]; omega
         refine ⟨(cs'.take (m * i.size))[j - o], ?_, ?_, hone _ (List.mem_of_mem_take (List.getElem_mem hlt))⟩
         ·rw [show (ι b).off + j - (o' + 0) = j - o by omega]
          exact List.getElem?_eq_getElem hlt
         ·have h2 := hcr2.2 (j - o)
          rw [getD_eq (List.getElem?_eq_getElem hlt), getD_eq (List.getElem?_eq_getElem hlt2)] at h2
          rw [List.getElem_append_left (by simp only [List.length_append, hl1, List.length_take]; omega), List.getElem_append_right (by rw [List.length_take]; omega)]
          have h3 : j - (List.take o blk).length = j - o := by rw [List.length_take]; omega
          simp only [h3]
          exact h2
        ·rw [if_neg (by omega)]
         obtain ⟨v', q1, q2, q3⟩ := hr.cell b false blk hblk j hjc
         refine ⟨v', ?_, ?_, q3⟩
         ·simpa [World.cell?, hwc] using q1
         ·rw [getD_eq (List.getElem?_eq_getElem hjc)] at q2
          rcases Nat.lt_or_ge j o with hjo | hjo
          ·rw [List.getElem_append_left (by simp only [List.length_append, hl1, List.length_take]; omega), List.getElem_append_left (by rw [List.length_take]; omega)]
           simpa using q2
          ·rw [List.getElem_append_right (by simp only [List.length_append, hl1, List.length_take]; omega)]
           simp only [List.getElem_drop]
           have h3 : o + (cs.take (m * i.size)).length + (j - (List.take o blk ++ cs.take (m * i.size)).length) = j := by
            rw [List.length_append, hl1, List.length_take]; omega
           simp only [h3]
           exact q2
      ·cases hw2
     ·cases hw2
  ·cases ha
 ·cases ha
theorem op_strBytes {x : Operand} {e e' el : TypeId} (hr : Rel ι h w) (he : ERel ι h.length t ρ) (hox : operOk x = true) (hu : P.underlying e = some .string) (hu2 : P.underlying e' = some (.slice el)) (hu3 : P.underlying el = some (.int .u8))
 (hx : aOp (.strBytes x) t h = some (v, h')) :
 Does P (execOp ρ ⟨d, .convert e e' x, ty, pos, af, g⟩) ι h w v h' := by
 simp only [aOp] at hx
 have hxr := he x hox
 split at hx
 ·rename_i s heq
  injection hx with hx
  injection hx with h1 h2
  subst h1 h2
  rw [heq] at hxr
  have hq : s.size ≤ (Question.appendCap s.size 0 el).cut (w.tape w.drawn (Question.appendCap s.size 0 el)) := by
   simp only [Question.cut]
   exact Nat.le_add_right _ _
  generalize hqq : (Question.appendCap s.size 0 el).cut (w.tape w.drawn (Question.appendCap s.size 0 el)) = q at hq
  have hds : s.data.size = s.size := rfl
  obtain ⟨c, hc⟩ : ∃ c : Array Value, c = (s.data.map fun b => Value.int .u8 b.toNat) ++ Array.replicate (q - s.size) (Value.int .u8 0) := ⟨_, rfl⟩
  have hcs : c.size = q := by rw [hc]; simp only [Array.size_append, Array.size_map, Array.size_replicate]; omega
  have hst := step_new hr (s.data.toList.map fun b => Value.int .u8 b.toNat) c el q (q + 1) (w.drawn + 1) (by simp only [List.length_map, Array.length_toList]; omega) (fun i p1 p2 => by
   have hi : i < s.data.size := by simpa using p1
   have e1 : c[i] = Value.int .u8 (s.data[i]).toNat := by
    subst hc
    rw [Array.getElem_append_left (by simpa using hi)]
    simp
   rw [e1]
   simp only [List.getElem_map, Array.getElem_toList]
   exact ⟨.int _ _, rfl⟩) (fun o ho => by omega)
  refine Does.value (s := convert e e' (ρ x)) (v' := .slice (some ⟨w.heap.size, 0, none⟩) s.size q) ?_ hst ?_
  ·rw [hxr.string_inv]
   simp only [convert, Sem.run_bind, run_under hu, run_under hu2, Result.andThen_ok, run_under hu3, Conv.stringToBytes, run_choose, Question.forced, Bool.false_eq_true, if_false, hqq, newRow, run_newObj, Sem.run_pure, markStringish, run_shape]
   have hshape : World.shape? { w with heap := w.heap.push (.cells c el (0, 0)), drawn := w.drawn + 1 } w.heap.size = some (el, q) := by
    simp [World.shape?, hcs]
   have hfre : ({ w with heap := w.heap.push (.cells c el (0, 0)), drawn := w.drawn + 1 } : World).freeze ⟨w.heap.size, q, none⟩ 1 = { w with heap := w.heap.push (.cells c el (q, q + 1)), drawn := w.drawn + 1 } := by
    unfold World.freeze
    simp only [Nat.one_ne_zero, if_false]
    congr 1
    apply Array.ext_getElem?
    intro i
    rw [Array.getElem?_modify]
    simp only [Array.getElem?_push]
    by_cases hi : w.heap.size = i
    ·subst hi
     simp
    ·simp [hi, Ne.symm hi]
   rw [← hc]
   simp only [hshape, run_freeze, Result.andThen_ok]
   rw [hfre]
  ·have hsz2 : (ι.set h.length ⟨w.heap.size, 0, c.size⟩) h.length = ⟨w.heap.size, 0, c.size⟩ := Inj.set_same
   have := VRel.mkSlice (ι := ι.set h.length ⟨w.heap.size, 0, c.size⟩) (n := (newBlk h (s.data.toList.map fun b => Value.int .u8 b.toNat)).length) h.length 0 s.size 1 0 q (by rw [length_new]; omega) (fun _ => by rw [hsz2]) hq (by rw [hsz2, hcs]; simp)
   rwa [hsz2] at this
 ·cases hx
theorem run_pushAll {P : Program} {w : World} (F : Value → ByteArray → Sem (ForInStep ByteArray)) (hF : ∀ (n : Int) (s : ByteArray), F (.int .u8 n) s = Pure.pure (ForInStep.yield (s.push (UInt8.ofNat n.toNat)))) :
 ∀ (l : List Value) (acc : ByteArray), (∀ v ∈ l, ∃ n : Int, v = .int .u8 n) →
 (forIn l acc F).run P w = .ok ⟨acc.data ++ (l.map fun v => match v with | .int _ n => UInt8.ofNat n.toNat | _ => 0).toArray⟩ w
 | [], acc, _ => by simp
 | v :: l, acc, h => by
   obtain ⟨n, rfl⟩ := h v (by simp)
   rw [List.forIn_cons, hF]
   simp only [pure_bind]
   rw [run_pushAll F hF l _ (fun u hu => h u (by simp [hu]))]
   congr 2
   simp [ByteArray.push]
theorem op_bytesStr {x : Operand} {e e' el : TypeId} (hr : Rel ι h w) (he : ERel ι h.length t ρ) (hox : operOk x = true) (hu : P.underlying e = some (.slice el)) (hu2 : P.underlying e' = some .string) (hu3 : P.underlying el = some (.int .u8))
 (hx : aOp (.bytesStr x) t h = some (v, h')) :
 Does P (execOp ρ ⟨d, .convert e e' x, ty, pos, af, g⟩) ι h w v h' := by
 simp only [aOp] at hx
 have hxr := he x hox
 split at hx
 ·rename_i cs hsrc
  split at hx
  ·rename_i hall
   obtain ⟨hns, hall⟩ := hall
   injection hx with hx
   injection hx with h1 h2
   subst h1 h2
   obtain ⟨hlen, hnl, cs', hcr, hone, hfirst⟩ := src_sound (P := P) hr (Nat.le_refl 1) hsrc hxr
   have hbytes : ∀ v ∈ cs, ∃ n : Int, v = .int .u8 n := by
    intro v hv
    have := List.all_eq_true.1 hall v hv
    split at this
    ·exact ⟨_, rfl⟩
    ·cases this
   have hsame : cs' = cs := by
    apply List.ext_getElem hcr.1.symm
    intro i p1 p2
    obtain ⟨n, hn⟩ := hbytes cs[i] (List.getElem_mem p2)
    have := hcr.2 i
    rw [getD_eq (List.getElem?_eq_getElem p2), getD_eq (List.getElem?_eq_getElem p1), hn] at this
    rw [this.int_inv, hn]
   subst hsame
   refine Does.pure (s := convert e e' (ρ x)) hr (v' := .string ⟨(cs'.map fun v => match v with | .int _ n => UInt8.ofNat n.toNat | _ => 0).toArray⟩) ?_ (.string _)
   unfold srcCells at hsrc
   split at hsrc
   ·rename_i heq
    injection hsrc with hsrc
    subst hsrc
    rw [heq] at hxr
    obtain ⟨_, _, hp⟩ := hxr.nilSlice_inv
    rw [hp]
    simp only [convert, Sem.run_bind, run_under hu, run_under hu2, Result.andThen_ok, run_under hu3]
    rfl
   ·rename_i b o n s heq
    rw [heq] at hxr
    obtain ⟨hb, a, cap, hp, hl, hc⟩ := hxr.slice_inv
    have hf := hfirst n (by rw [heq]; exact Nat.le_refl _)
    rw [hp] at hf ⊢
    simp only [Builtin.firstCells, Nat.mul_one] at hf
    have hlen2 : cs'.length = n := by rw [hnl, heq]; simp [srcLen]
    rw [← hlen2, List.take_length] at hf
    rw [hlen2] at hf
    simp only [convert, Sem.run_bind, run_under hu, run_under hu2, Result.andThen_ok, run_under hu3, Conv.bytesToString, hf]
    rw [List.forIn_toArray, run_pushAll _ (fun _ _ => rfl) cs' ByteArray.empty hbytes]
    simp only [Result.andThen_ok, Sem.run_pure]
    congr 3
    simp [ByteArray.empty, ByteArray.emptyWithCapacity]
    rfl
   ·rename_i heq
    rw [heq] at hns
    cases hns
   ·cases hsrc
  ·cases hx
 ·cases hx
end
end Go.Wb
namespace Go.Wb
open Go
structure AOper where
 dst : Option Tmp
 op : AOp
 guard : Option (Tmp × Bool)
inductive ACode where
 | skip
 | ops (l : List AOper)
 | drawn (l : List AOper) (pairs : List (Nat × Nat))
 | seq (a b : ACode)
 | cond (c : Operand) (x y : ACode)
 | block (id : Nat) (b : ACode)
 | loop (b : ACode)
 | exit (id : Nat)
 | ret
inductive AExit where
 | normal
 | exit (id : Nat)
 | ret
inductive ARes where
 | tmp (t : Tmp)
 | cell (t : Tmp) (n : Option Nat)
inductive AFun where
 | code (res : List ARes) (body : ACode)
 | dyn (tbl : List (Nat × String))
 | prim (g : List Value → Heap → Option (Value × Heap))
abbrev Env := String → Option AFun
abbrev CallF := String → List Value → Heap → Option (Value × Heap)
def wantedA (g : Option (Tmp × Bool)) (t : T) : Bool :=
 match g with
 | none => true
 | some (d, w) => match t d with
   | .bool b => b == w
   | _ => false
def evalA (call : CallF) (o : AOp) (t : T) (h : Heap) : Option (Value × Heap) :=
 match o with
 | .call f args => call f (args.map (Ev t)) h
 | o => aOp o t h
def stepA (call : CallF) (o : AOper) (t : T) (h : Heap) : Option (T × Heap) :=
 if wantedA o.guard t then
  match evalA call o.op t h with
  | some (v, h') => some (put t o.dst v, h')
  | none => none
 else some (put t o.dst undef, h)
def execOps (call : CallF) : List AOper → T → Heap → Option (T × Heap)
 | [], t, h => some (t, h)
 | o :: l, t, h => match stepA call o t h with
   | some (t', h') => execOps call l t' h'
   | none => none
def isE : AOp → Bool
 | .store .. | .append .. | .appendS .. | .copy .. | .call .. | .alloc .. | .box .. | .buildSlice .. | .makeSlice .. | .strBytes .. => true
 | _ => false
abbrev LoadRec := Option (Option Nat × Value × Value)
def loadRec (o : AOper) (t : T) (h : Heap) : List LoadRec :=
 match o.op with
 | .load n x => if wantedA o.guard t then match readV h n (Ev t x) with
  | some v => [some (n, Ev t x, v)]
  | none => [none]
   else [none]
 | _ => []
def execLog (call : CallF) : List AOper → T → Heap → Option (T × Heap × List Heap × List LoadRec)
 | [], t, h => some (t, h, [], [])
 | o :: l, t, h => match stepA call o t h with
   | some (t', h') => match execLog call l t' h' with
     | some (t2, h2, G, L) => some (t2, h2, if isE o.op then h' :: G else G, loadRec o t h ++ L)
     | none => none
   | none => none
def sameAt (G : List Heap) (L : List LoadRec) (p : Nat × Nat) : Prop :=
 match L[p.1]?, G[p.2]? with
 | some (some (n, a, v)), some h => readV h n a = some v
 | some none, some _ => True
 | _, _ => False
def checkPairs (G : List Heap) (L : List LoadRec) : List (Nat × Nat) → Prop
 | [] => True
 | p :: ps => sameAt G L p ∧ checkPairs G L ps
open Classical in
noncomputable def execDrawn (call : CallF) (l : List AOper) (pairs : List (Nat × Nat)) (t : T) (h : Heap) : Option (T × Heap) :=
 match execLog call l t h with
 | some (t', h', G, L) => if checkPairs (h :: G) L pairs then some (t', h') else none
 | none => none
def resVals (t : T) (h : Heap) : List ARes → Option (List Value)
 | [] => some []
 | .tmp i :: l => match resVals t h l with
   | some vs => some (t i :: vs)
   | none => none
 | .cell i n :: l => match readV h n (t i), resVals t h l with
   | some v, some vs => some (v :: vs)
   | _, _ => none
def resVal (t : T) (h : Heap) (rs : List ARes) : Option Value :=
 match resVals t h rs with
 | some [v] => some v
 | some vs => some (.tuple vs.toArray)
 | none => none
def argT (args : List Value) : T := fun i => args.getD i undef
mutual
noncomputable def callN (E : Env) : Nat → CallF
 | 0, _, _, _ => none
 | n + 1, f, args, h => match E f with
   | none => none
   | some (.prim g) => g args h
   | some (.dyn tbl) => match args with
     | .func (.func f) first caps :: rest => match tbl.find? (fun e => e.1 == f) with
       | some e => callN E n e.2 (first.toList ++ rest ++ caps.toList) h
       | none => none
     | _ => none
   | some (.code res body) => match runN E n body (argT args) h with
     | some (.ret, t, h') => (resVal t h' res).map fun v => (v, h')
     | some (.normal, t, h') => (resVal t h' res).map fun v => (v, h')
     | _ => none
noncomputable def runN (E : Env) : Nat → ACode → T → Heap → Option (AExit × T × Heap)
 | 0, _, _, _ => none
 | n + 1, c, t, h => match c with
   | .skip => some (.normal, t, h)
   | .ops l => (execOps (callN E n) l t h).map fun x => (.normal, x.1, x.2)
   | .drawn l ps => (execDrawn (callN E n) l ps t h).map fun x => (.normal, x.1, x.2)
   | .seq a b => match runN E n a t h with
     | some (.normal, t', h') => runN E n b t' h'
     | r => r
   | .cond c x y => match Ev t c with
     | .bool true => runN E n x t h
     | .bool false => runN E n y t h
     | _ => none
   | .block id b => match runN E n b t h with
     | some (.exit i, t', h') => if i = id then some (.normal, t', h') else some (.exit i, t', h')
     | r => r
   | .loop b => match runN E n b t h with
     | some (.normal, t', h') => runN E n (.loop b) t' h'
     | r => r
   | .exit id => some (.exit id, t, h)
   | .ret => some (.ret, t, h)
end
abbrev Names := FuncId → Option String
def noCall : Option AOp → Option AOp
 | some (.call _ _) => none
 | r => r
def keepId : FuncId := 1000000
def keepOp (nm : Names) : Option AOp → Option AOp
 | some (.append n b s x) => match nm keepId with
   | some _ => some (.appendS n b s x)
   | none => some (.append n b s x)
 | r => r
def compileOpN (P : Program) (nm : Names) (op : Op) : Option AOp :=
 match op with
 | .call c => match c.callee with
   | .value (.func f) => match nm f, P.funcs[f]? with
     | some n, some fn => if fn.body.isSome ∧ fn.name ≠ "runtime.NumGoroutine" ∧ okAll c.args.toList then some (.call n c.args.toList) else none
     | _, _ => none
   | .value (.tmp i) => if okAll c.args.toList then some (.call "@dyn" (.tmp i :: c.args.toList)) else none
   | _ => keepOp nm (noCall (compileOp P op))
 | _ => noCall (compileOp P op)
def guardOf (ops : Array Oper) : Option (Nat × Bool) → Option (Option (Tmp × Bool))
 | none => some none
 | some (j, w) => match (ops[j]?).bind (·.dst) with
   | some d => some (some (d, w))
   | none => none
def compileOper (P : Program) (nm : Names) (nt : Nat) (ops : Array Oper) (o : Oper) : Option AOper :=
 match compileOpN P nm o.op, guardOf ops o.guard with
 | some op, some g => match o.dst with
   | none => some ⟨none, op, g⟩
   | some d => if d < nt then some ⟨some d, op, g⟩ else none
 | _, _ => none
def compileOps (P : Program) (nm : Names) (nt : Nat) (ops : Array Oper) : List Oper → Option (List AOper)
 | [] => some []
 | o :: l => match compileOper P nm nt ops o, compileOps P nm nt ops l with
   | some a, some r => some (a :: r)
   | _, _ => none
end Go.Wb
namespace Go.Wb
open Go
structure SRel (nt : Nat) (ι : Inj) (h : Heap) (t : T) (a : Act) (w : World) : Prop where
 rel : Rel ι h w
 tmps : ∀ i, VRel ι h.length (t i) (a.tmps.getD i undef)
 defers : a.defers = []
 size : nt ≤ a.tmps.size
def CallOk (P : Program) (f : FuncId) (args : List Value) (h : Heap) (v : Value) (h' : Heap) : Prop :=
 ∀ ι w args', Rel ι h w → CRel ι h.length args args' → Calls P f args'.toArray w fun e w' => ∃ ι' v', e = .returned v' ∧ Step ι h w ι' h' w' ∧ VRel ι' h'.length v v'
def CallsOk (P : Program) (nm : Names) (call : CallF) : Prop :=
 (∀ n args h v h', call n args h = some (v, h') → ∀ f, nm f = some n → CallOk P f args h v h') ∧
 ∀ fv args h v h', call "@dyn" (fv :: args) h = some (v, h') → ∃ f first caps fn, fv = .func (.func f) first caps ∧ P.funcs[f]? = some fn ∧ fn.body.isSome = true ∧ fn.name ≠ "runtime.NumGoroutine" ∧ CallOk P f (first.toList ++ args ++ caps.toList) h v h'
theorem SRel.erel {nt : Nat} {ι : Inj} {h : Heap} {t : T} {a : Act} {w : World} (hs : SRel nt ι h t a w) : ERel ι h.length t a.eval := by
 intro x hx
 cases x with
 | tmp i => exact hs.tmps i
 | const v => exact const_rel hx
 | global g => cases hx
 | func f => exact .func _ _ _ _ _ rfl rfl (fun i => by simpa using VRel.undef) (fun i => by simpa using VRel.undef)
theorem SRel.put {nt : Nat} {ι ι' : Inj} {h h' : Heap} {t : T} {a : Act} {w w' : World} (hs : SRel nt ι h t a w) (st : Step ι h w ι' h' w') {d : Option Tmp} (hd : ∀ k, d = some k → k < nt) {v v' : Value} (hv : VRel ι' h'.length v v') :
 SRel nt ι' h' (Wb.put t d v) (a.put d v') w' := by
 cases d with
 | none => exact ⟨st.rel, fun i => st.vrel (hs.tmps i), hs.defers, hs.size⟩
 | some k =>
   have hk := hd k rfl
   refine ⟨st.rel, fun i => ?_, hs.defers, by simpa [Act.put] using hs.size⟩
   have hlt : k < a.tmps.size := Nat.lt_of_lt_of_le hk hs.size
   simp only [Wb.put, upd, Act.put]
   by_cases hi : i = k
   ·subst hi
    simpa [hlt] using hv
   ·rw [if_neg hi]
    have := st.vrel (hs.tmps i)
    simpa [Array.getElem?_setIfInBounds_ne (Ne.symm hi)] using this
section
variable {P : Program} {nm : Names} {nt : Nat} {ι : Inj} {h h' : Heap} {w : World} {t t' : T} {a : Act} {v : Value}
theorem aggN_one {e : TypeId} (ha : aggN P e = some none) : ∃ i, P.info? e = some i := by
 obtain ⟨i, _, hi, _⟩ := aggN_none ha
 exact ⟨i, hi⟩
theorem op_sound {o : Oper} {op : AOp} (hs : SRel nt ι h t a w) (hc : compileOp P o.op = some op) (hx : aOp op t h = some (v, h')) : Does P (execOp a.eval o) ι h w v h' := by
 obtain ⟨d, oop, ty, pos, af, g⟩ := o
 have hr := hs.rel
 have he := hs.erel
 have hρ : ∀ v, a.eval (.const v) = v := fun _ => rfl
 simp only at hc
 unfold compileOp at hc
 split at hc
 case isFalse => cases hc
 rename_i hok0
 have hok := List.all_eq_true.1 hok0
 clear hok0
 split at hc
 ·injection hc with hc; subst hc
  exact op_move hr he (hok _ (by simp [Op.operands])) hx
 ·injection hc with hc; subst hc
  exact op_assign hr he (hok _ (by simp [Op.operands])) hx
 ·injection hc with hc; subst hc
  exact op_pick hr he (hok _ (by simp [Op.operands])) (hok _ (by simp [Op.operands])) (hok _ (by simp [Op.operands])) hx
 ·rw [Option.map_eq_some_iff] at hc
  obtain ⟨zs, hz, hc⟩ := hc
  subst hc
  exact op_alloc hr hz hx
 ·injection hc with hc; subst hc
  exact op_box hr he (hok _ (by simp [Op.operands])) hx
 ·rename_i e parts
  have hp : ∀ x ∈ parts.toList, operOk x.2 = true := fun x hx => hok _ (by simp [Op.operands]; exact ⟨x.1, by simpa using hx⟩)
  split at hc
  ·rename_i z fs hz hu
   split at hc
   ·rename_i l hl
    split at hc
    ·rename_i hi
     injection hc with hc; subst hc
     exact op_build_struct hr he hp hz hu hl hi hx
    ·cases hc
   ·cases hc
  ·rename_i z n el hz hu
   split at hc
   ·rename_i j hj
    split at hc
    ·rename_i l hl
     injection hc with hc; subst hc
     exact op_build_array hr he hp hz hu hj hl hx
    ·cases hc
   ·cases hc
  ·cases hc
 ·rename_i e n parts
  have hp : ∀ x ∈ parts.toList, operOk x.2 = true := fun x hx => hok _ (by simp [Op.operands]; exact ⟨x.1, by simpa using hx⟩)
  split at hc
  ·rename_i el hu
   split at hc
   ·rename_i j z hj hz
    split at hc
    ·rename_i hcond
     split at hc
     ·rename_i l hl
      injection hc with hc; subst hc
      exact op_buildSlice hr he hp hz hu hj hl hcond.1 hcond.2.1 hx
     ·cases hc
    ·cases hc
   ·cases hc
  ·cases hc
 ·rw [Option.map_eq_some_iff] at hc
  obtain ⟨n, hn, hc⟩ := hc
  subst hc
  exact op_load hr he (hok _ (by simp [Op.operands])) hn hx
 ·rename_i e x y
  split at hc
  ·rename_i hsz
   rw [Option.map_eq_some_iff] at hc
   obtain ⟨n, hn, hc⟩ := hc
   subst hc
   refine op_store hr he (hok _ (by simp [Op.operands])) (hok _ (by simp [Op.operands])) hn (fun h0 => ?_) hx
   subst h0
   obtain ⟨i, u, hi, hu, hag⟩ := aggN_none hn
   have := hsz hag
   rw [hi] at this
   exact ⟨i, hi, by simpa using this⟩
  ·cases hc
 ·injection hc with hc; subst hc
  exact op_nilCheck hr he (hok _ (by simp [Op.operands])) hx
 ·rename_i bop e x y e'
  have hox := hok x (by simp [Op.operands])
  have hoy := hok y (by simp [Op.operands])
  unfold compileBin at hc
  split at hc
  ·injection hc with hc; subst hc
   exact op_bin hr he hox hoy hx
  ·injection hc with hc; subst hc
   exact op_bin hr he hox hoy hx
  ·rename_i hu
   injection hc with hc; subst hc
   exact op_binB hr he hox hoy hu hx
  ·rename_i el hu
   split at hc
   ·injection hc with hc; subst hc
    exact op_nilv (neg := false) (left := false) hr he hox hu hρ hx
   ·injection hc with hc; subst hc
    exact op_nilv (neg := true) (left := false) hr he hox hu hρ hx
   ·injection hc with hc; subst hc
    exact op_nilv (neg := false) (left := true) hr he hoy hu hρ hx
   ·injection hc with hc; subst hc
    exact op_nilv (neg := true) (left := true) hr he hoy hu hρ hx
   ·cases hc
  ·rename_i fs hu
   split at hc
   ·rename_i ks hk
    split at hc
    ·rename_i hg
     have hag : isAggT P e = true := by simp [isAggT, isAggC, hu]
     split at hc
     ·injection hc with hc; subst hc
      exact op_eqv (neg := false) hr he hox hoy hk hg hag hx
     ·injection hc with hc; subst hc
      exact op_eqv (neg := true) hr he hox hoy hk hg hag hx
     ·cases hc
    ·cases hc
   ·cases hc
  ·rename_i n el hu
   split at hc
   ·rename_i ks hk
    split at hc
    ·rename_i hg
     have hag : isAggT P e = true := by simp [isAggT, isAggC, hu]
     split at hc
     ·injection hc with hc; subst hc
      exact op_eqv (neg := false) hr he hox hoy hk hg hag hx
     ·injection hc with hc; subst hc
      exact op_eqv (neg := true) hr he hox hoy hk hg hag hx
     ·cases hc
    ·cases hc
   ·cases hc
  ·cases hc
 ·injection hc with hc; subst hc
  exact op_un hr he (hok _ (by simp [Op.operands])) hx
 ·rename_i src dst x
  have hox := hok x (by simp [Op.operands])
  split at hc
  ·rename_i k k' hu hk
   injection hc with hc; subst hc
   exact op_convInt hr he hox hu hk hx
  ·rename_i hu hk
   injection hc with hc; subst hc
   exact op_convStr hr he hox hu hk hx
  ·rename_i el hu hk
   split at hc
   ·rename_i h8
    injection hc with hc; subst hc
    refine op_strBytes hr he hox hu hk h8 hx
   ·cases hc
  ·rename_i el hu hk
   split at hc
   ·rename_i h8
    injection hc with hc; subst hc
    refine op_bytesStr hr he hox hu hk h8 hx
   ·cases hc
  ·cases hc
 ·rename_i e x
  split at hc
  ·cases hc
  ·rename_i u hn hu
   injection hc with hc; subst hc
   exact op_iface hr he (hok _ (by simp [Op.operands])) hu (fun ms hms => hn ms hms) hx
  ·cases hc
 ·rename_i fn f c
  injection hc with hc; subst hc
  exact op_func hr he (fun x hx => hok x (by simp [Op.operands] at *; exact .inl hx)) (fun x hx => hok x (by simp [Op.operands] at *; exact .inr hx)) hx
 ·rename_i e l c
  split at hc
  ·rename_i el hu
   split at hc
   ·rename_i n b z hsb hz
    split at hc
    ·rename_i hcond
     injection hc with hc; subst hc
     unfold sizeBytes at hsb
     split at hsb
     ·rename_i j hj
      injection hsb with hsb
      injection hsb with e1 e2
      subst e1 e2
      exact op_makeSlice hr he (hok _ (by simp [Op.operands])) (hok _ (by simp [Op.operands])) hz hu hj hcond.2.1 hcond.1 hx
     ·cases hsb
    ·cases hc
   ·cases hc
  ·cases hc
 ·rename_i e x lo hi mx
  have ol : ∀ y, lo = some y → operOk y = true := fun y hy => hok _ (by subst hy; simp [Op.operands])
  have oh : ∀ y, hi = some y → operOk y = true := fun y hy => hok _ (by subst hy; simp [Op.operands])
  have hox := hok x (by simp [Op.operands])
  split at hc
  ·rename_i hu
   injection hc with hc; subst hc
   exact op_sliceStr hr he hox ol oh hu hx
  ·rename_i el hu
   split at hc
   ·rename_i j hj
    split at hc
    ·injection hc with hc; subst hc
     exact op_sliceSl hr he hox ol oh hu hj hx
    ·cases hc
   ·cases hc
  ·rename_i n el hu
   split at hc
   ·rename_i j hj
    split at hc
    ·injection hc with hc; subst hc
     exact op_sliceArr hr he hox ol oh hu hj hx
    ·cases hc
   ·cases hc
  ·cases hc
 ·rename_i s x f
  split at hc
  ·rename_i fs hu
   split at hc
   ·rename_i fd hf
    split at hc
    ·rename_i j hj
     split at hc
     ·rename_i h1
      injection hc with hc; subst hc
      exact op_fieldAddr hr he (hok _ (by simp [Op.operands])) hu hf hj h1 hx
     ·cases hc
    ·cases hc
   ·cases hc
  ·cases hc
 ·rename_i s x
  split at hc
  ·rename_i n el hu
   split at hc
   ·rename_i j hj
    split at hc
    ·injection hc with hc; subst hc
     exact op_slArr hr he (hok _ (by simp [Op.operands])) hu hx
    ·cases hc
   ·cases hc
  ·cases hc
 ·rename_i s x f
  split at hc
  ·rename_i fs hu
   split at hc
   ·rename_i fd hf
    rw [Option.map_eq_some_iff] at hc
    obtain ⟨n, hn, hc⟩ := hc
    subst hc
    exact op_field hr he (hok _ (by simp [Op.operands])) hu hf hn hx
   ·cases hc
  ·cases hc
 ·rename_i s x i
  split at hc
  ·rename_i n el hu
   split at hc
   ·rename_i j hj
    injection hc with hc; subst hc
    exact op_idxAddrArr hr he (hok _ (by simp [Op.operands])) (hok _ (by simp [Op.operands])) hu hj hx
   ·cases hc
  ·rename_i el hu
   split at hc
   ·rename_i j hj
    split at hc
    ·injection hc with hc; subst hc
     exact op_idxAddrSl hr he (hok _ (by simp [Op.operands])) (hok _ (by simp [Op.operands])) hu hj hx
    ·cases hc
   ·cases hc
  ·cases hc
 ·rename_i s x i
  split at hc
  ·rename_i n el hu
   split at hc
   ·rename_i j m hj hm
    injection hc with hc; subst hc
    exact op_idxArr hr he (hok _ (by simp [Op.operands])) (hok _ (by simp [Op.operands])) hu hj hm hx
   ·cases hc
  ·rename_i hu
   injection hc with hc; subst hc
   exact op_idxStr hr he (hok _ (by simp [Op.operands])) (hok _ (by simp [Op.operands])) hu hx
  ·cases hc
 ·injection hc with hc; subst hc
  exact op_extract hr he (hok _ (by simp [Op.operands])) hx
 ·rename_i c
  obtain ⟨callee, args, ats⟩ := c
  obtain ⟨args⟩ := args
  obtain ⟨ats⟩ := ats
  have hop : ∀ y ∈ args, operOk y = true := fun y hy => hok y (by simp [Op.operands, Call.operands]; exact .inr hy)
  unfold compileCall at hc
  split at hc
  ·split at hc
   ·split at hc
    ·injection hc with hc; subst hc
     simp [aOp] at hx
    ·cases hc
   ·cases hc
  ·rename_i hcal
   simp only at hcal
   subst hcal
   split at hc
   ·rename_i x e hx1 he1
    simp only at hx1 he1
    subst hx1 he1
    have hox := hop x (by simp)
    split at hc
    ·rename_i hu
     injection hc with hc; subst hc
     exact op_lenStr hr he hox hu hx
    ·rename_i el hu
     injection hc with hc; subst hc
     exact op_len hr he hox hu hx
    ·rename_i n el hu
     injection hc with hc; subst hc
     exact op_lenArr hr (.inl ⟨el, hu⟩) hx
    ·rename_i e2 hu
     split at hc
     ·rename_i n el hu2
      injection hc with hc; subst hc
      exact op_lenArr hr (.inr ⟨e2, el, hu, hu2⟩) hx
     ·cases hc
    ·cases hc
   ·cases hc
  ·rename_i hcal
   simp only at hcal
   subst hcal
   split at hc
   ·rename_i s x e tx hx1 he1
    simp only at hx1 he1
    subst hx1 he1
    have hos := hop s (by simp)
    have hox := hop x (by simp)
    have key : ∀ (el : TypeId) (dx : TypeDesc), P.underlying e = some (.slice el) → P.underlying tx = some dx → ((∃ e2, dx = .slice e2) ∨ dx = .string) →
     (match sizeBytes P el, zeroOf P el with
      | some (n, b), some z => if 1 ≤ b ∧ 1 ≤ n ∧ z.length = n then some (AOp.append n b s x) else none
      | _, _ => none) = some op → Does P (execOp a.eval ⟨d, .call ⟨.builtin .append, #[s, x], #[e, tx]⟩, ty, pos, af, g⟩) ι h w v h' := by
     intro el dx hu hut hdx hc
     split at hc
     ·rename_i n b z hsb hz
      split at hc
      ·rename_i hcond
       injection hc with hc; subst hc
       unfold sizeBytes at hsb
       split at hsb
       ·rename_i j hj
        injection hsb with hsb
        injection hsb with e1 e2
        subst e1 e2
        obtain ⟨i, zz, hi, hzz, hzv, hzl, _⟩ := zeroOf_some hz
        rw [hj] at hi
        injection hi with hi
        subst hi
        exact op_append hr he hos hox hu hut hdx hj hzz (by rw [← hzv, valCells_eq] at hzl; simpa using hzl) hcond.1 hcond.2.1 hx
       ·cases hsb
      ·cases hc
     ·cases hc
    split at hc
    ·rename_i el e2 hu hut
     exact key el _ hu hut (.inl ⟨e2, rfl⟩) hc
    ·rename_i el hu hut
     exact key el _ hu hut (.inr rfl) hc
    ·cases hc
   ·cases hc
  ·rename_i hcal
   simp only at hcal
   subst hcal
   split at hc
   ·rename_i dd s e e2 hx1 he1
    simp only at hx1 he1
    subst hx1 he1
    split at hc
    ·rename_i el hu
     split at hc
     ·rename_i n b hsb
      split at hc
      ·rename_i hcond
       injection hc with hc; subst hc
       unfold sizeBytes at hsb
       split at hsb
       ·rename_i j hj
        injection hsb with hsb
        injection hsb with e1 e2
        subst e1 e2
        exact op_copy hr he (hop dd (by simp)) (hop s (by simp)) hu hj hcond hx
       ·cases hsb
      ·cases hc
     ·cases hc
    ·cases hc
   ·cases hc
  ·rename_i hcal
   simp only at hcal
   subst hcal
   split at hc
   ·rename_i x y hx1
    simp only at hx1
    subst hx1
    injection hc with hc; subst hc
    exact op_max2 hr he (hop x (by simp)) (hop y (by simp)) hx
   ·cases hc
  ·rename_i hcal
   simp only at hcal
   subst hcal
   split at hc
   ·rename_i x y hx1
    simp only at hx1
    subst hx1
    injection hc with hc; subst hc
    exact op_min2 hr he (hop x (by simp)) (hop y (by simp)) hx
   ·cases hc
  ·cases hc
 ·cases hc
theorem compile_append {op : Op} {n b : Nat} {s x : Operand} (hc : compileOp P op = some (.append n b s x)) :
 ∃ c, op = .call c ∧ compileCall P c = some (.append n b s x) ∧ okAll op.operands.toList = true := by
 unfold compileOp at hc
 split at hc
 case isFalse => cases hc
 rename_i hok
 split at hc <;> first
  | exact ⟨_, rfl, hc, hok⟩
  | (unfold compileBin at hc; (repeat' split at hc) <;> cases hc; done)
  | ((repeat' split at hc) <;> (first | (cases hc; done) | (rw [Option.map_eq_some_iff] at hc; obtain ⟨_, _, hc⟩ := hc; cases hc; done)); done)
theorem op_soundS {o : Oper} {n b : Nat} {s x : Operand} (hs : SRel nt ι h t a w) (hc : compileOp P o.op = some (.append n b s x)) (hx : aOp (.appendS n b s x) t h = some (v, h')) : Does P (execOp a.eval o) ι h w v h' := by
 obtain ⟨d, oop, ty, pos, af, g⟩ := o
 have hr := hs.rel
 have he := hs.erel
 simp only at hc
 obtain ⟨c, hoc, hcc, hok⟩ := compile_append hc
 clear hc
 have hc := hcc
 subst hoc
 have hok := List.all_eq_true.1 hok
 obtain ⟨cal, args, ats⟩ := c
 obtain ⟨args⟩ := args
 obtain ⟨ats⟩ := ats
 have hop : ∀ y ∈ args, operOk y = true := fun y hy => hok y (by simp [Op.operands, Call.operands]; exact .inr hy)
 unfold compileCall at hc
 split at hc <;> first
  | ((repeat' split at hc) <;> cases hc; done)
  | skip
 rename_i hcal
 simp only at hcal
 subst hcal
 split at hc
 ·rename_i s' x' e tx hx1 he1
  simp only at hx1 he1
  subst hx1 he1
  have hos := hop s' (by simp)
  have hox := hop x' (by simp)
  have key : ∀ (el : TypeId) (dx : TypeDesc), P.underlying e = some (.slice el) → P.underlying tx = some dx → ((∃ e2, dx = .slice e2) ∨ dx = .string) →
   (match sizeBytes P el, zeroOf P el with
    | some (n, b), some z => if 1 ≤ b ∧ 1 ≤ n ∧ z.length = n then some (AOp.append n b s' x') else none
    | _, _ => none) = some (.append n b s x) → Does P (execOp a.eval ⟨d, .call ⟨.builtin .append, #[s', x'], #[e, tx]⟩, ty, pos, af, g⟩) ι h w v h' := by
   intro el dx hu hut hdx hc
   split at hc
   ·rename_i n1 b1 z hsb hz
    split at hc
    ·rename_i hcond
     injection hc with hc
     injection hc with q1 q2 q3 q4
     subst q1 q2 q3 q4
     unfold sizeBytes at hsb
     split at hsb
     ·rename_i j hj
      injection hsb with hsb
      injection hsb with e1 e2
      subst e1 e2
      obtain ⟨i, zz, hi, hzz, hzv, hzl, _⟩ := zeroOf_some hz
      rw [hj] at hi
      injection hi with hi
      subst hi
      exact op_appendS hr he hos hox hu hut hdx hj hzz (by rw [← hzv, valCells_eq] at hzl; simpa using hzl) hcond.1 hcond.2.1 hx
     ·cases hsb
    ·cases hc
   ·cases hc
  split at hc
  ·rename_i el e2 hu hut
   exact key el _ hu hut (.inl ⟨e2, rfl⟩) hc
  ·rename_i el hu hut
   exact key el _ hu hut (.inr rfl) hc
  ·cases hc
 ·cases hc
end
end Go.Wb
namespace Go.Wb
open Go
section
variable {P : Program} {nm : Names} {nt : Nat} {ι : Inj} {h h' : Heap} {w : World} {t t' : T} {a : Act} {v : Value} {call : CallF} {ops : Array Oper} {Q : Exit → Act → World → Prop}
theorem guard_same {o : Oper} {g : Option (Tmp × Bool)} (hs : SRel nt ι h t a w) (hg : guardOf ops o.guard = some g) : Region.wanted o (yielded ops a.tmps) = wantedA g t := by
 obtain ⟨d, oop, ty, pos, af, gd⟩ := o
 cases gd with
 | none =>
   simp only [guardOf] at hg
   injection hg with hg
   subst hg
   rfl
 | some x =>
   obtain ⟨j, want⟩ := x
   simp only [guardOf] at hg
   split at hg
   ·rename_i d' hd'
    injection hg with hg
    subst hg
    simp only [Region.wanted, wantedA, yielded, hd', Option.bind_some]
    have hv := hs.tmps d'
    cases hq : a.tmps[d']? with
    | none =>
      have e : a.tmps.getD d' undef = undef := by simp [hq]
      rw [e] at hv
      cases ht : t d' <;> rw [ht] at hv <;> first | rfl | (cases hv; done) | skip
      all_goals (first | rfl | (generalize hu : undef = u at hv; cases hv; exact absurd hu (by simp [undef])))
    | some u =>
      have e : a.tmps.getD d' undef = u := by simp [hq]
      rw [e] at hv
      cases ht : t d' <;> rw [ht] at hv <;> cases hv <;> first | rfl | (cases want <;> rename_i b <;> cases b <;> rfl)
   ·cases hg
theorem callNext {o : Oper} {c : Call} {f : FuncId} {fn : Func} (ho : o.op = .call c) (hc : c.callee = .value (.func f)) (hf : P.funcs[f]? = some fn) (hb : fn.body.isSome = true) (hn : fn.name ≠ "runtime.NumGoroutine") (ρ : Operand → Value) (hρ : ρ (.func f) = .func (.func f) #[] #[]) :
 (execOp ρ o).run P w = .ok (.enter f (c.args.map ρ)) w := by
 obtain ⟨d, oop, ty, pos, af, gd⟩ := o
 simp only at ho
 subst ho
 have hbn : fn.body.isNone = false := by cases hx : fn.body <;> simp [hx] at hb ⊢
 have hne : (fn.name == "runtime.NumGoroutine") = false := by simpa using hn
 simp only [execOp, resolve, hc, hρ, Deferred.ofValue, invoke, callFunc, pure_bind, Sem.run_bind, run_program, Result.andThen_ok, hf, hbn, hne, Bool.false_eq_true, if_false, Array.append_empty]
 simp
theorem callNextD {o : Oper} {c : Call} {i : Nat} {f : FuncId} {fn : Func} (ho : o.op = .call c) (hc : c.callee = .value (.tmp i)) (hf : P.funcs[f]? = some fn) (hb : fn.body.isSome = true) (hn : fn.name ≠ "runtime.NumGoroutine")
 (ρ : Operand → Value) {first' caps' : Array Value} (hρ : ρ (.tmp i) = .func (.func f) first' caps') : (execOp ρ o).run P w = .ok (.enter f (first' ++ c.args.map ρ ++ caps')) w := by
 obtain ⟨d, oop, ty, pos, af, gd⟩ := o
 simp only at ho
 subst ho
 have hbn : fn.body.isNone = false := by cases hx : fn.body <;> simp [hx] at hb ⊢
 have hne : (fn.name == "runtime.NumGoroutine") = false := by simpa using hn
 simp only [execOp, resolve, hc, hρ, Deferred.ofValue, invoke, callFunc, pure_bind, Sem.run_bind, run_program, Result.andThen_ok, hf, hbn, hne, Bool.false_eq_true, if_false]
 simp
theorem List.append_toArray_aux {a b c : Array Value} : (a.toList ++ b.toList ++ c.toList).toArray = a ++ b ++ c := by simp
theorem oper_sound {o : Oper} {ao : AOper} (hcalls : CallsOk P nm call) (hs : SRel nt ι h t a w) (hc : compileOper P nm nt ops o = some ao) (hx : stepA call ao t h = some (t', h')) :
 (Region.wanted o (yielded ops a.tmps) = true → o.wp P a w (fun a' w' => ∃ ι', SRel nt ι' h' t' a' w' ∧ Step ι h w ι' h' w') Q) ∧
 (Region.wanted o (yielded ops a.tmps) = false → SRel nt ι h' t' (a.put o.dst undef) w ∧ h' = h) := by
 unfold compileOper at hc
 split at hc
 case h_2 => cases hc
 rename_i op g hop hg
 have hw := guard_same (nt := nt) hs hg
 have hao : ao = ⟨o.dst, op, g⟩ ∧ ∀ k, o.dst = some k → k < nt := by
  split at hc
  ·rename_i hd
   injection hc with hc
   exact ⟨by rw [← hc, hd], fun k hk => by rw [hd] at hk; cases hk⟩
  ·rename_i k hd
   split at hc
   ·rename_i hlt
    injection hc with hc
    exact ⟨by rw [← hc, hd], fun k' hk => by rw [hd] at hk; injection hk with hk; rw [← hk]; exact hlt⟩
   ·cases hc
 obtain ⟨rfl, hd⟩ := hao
 unfold stepA at hx
 simp only at hx
 rw [hw]
 constructor
 ·intro hwt
  rw [if_pos hwt] at hx
  split at hx
  case h_2 => cases hx
  rename_i v h1 hev
  injection hx with hx
  injection hx with e1 e2
  subst e1 e2
  have pure_case : ∀ (hcp : compileOp P o.op = some op) (hap : aOp op t h = some (v, h1)), o.wp P a w (fun a' w' => ∃ ι', SRel nt ι' h1 (put t o.dst v) a' w' ∧ Step ι h w ι' h1 w') Q := by
   intro hcp hap
   obtain ⟨ι', v', w', nx, hrun, hnx, hst, hv⟩ := op_sound hs hcp hap
   unfold Oper.wp
   rw [hrun]
   rcases hnx with rfl | ⟨rfl, rfl⟩
   ·exact ⟨ι', hs.put hst hd hv, hst⟩
   ·exact ⟨ι', hs.put hst hd hv, hst⟩
  have keepS_case : ∀ (n b : Nat) (s x : Operand), compileOp P o.op = some (.append n b s x) → aOp (.appendS n b s x) t h = some (v, h1) → o.wp P a w (fun a' w' => ∃ ι', SRel nt ι' h1 (put t o.dst v) a' w' ∧ Step ι h w ι' h1 w') Q := by
   intro n b s x hcp hap
   obtain ⟨ι', v', w', nx, hrun, hnx, hst, hv⟩ := op_soundS hs hcp hap
   unfold Oper.wp
   rw [hrun]
   rcases hnx with rfl | ⟨rfl, rfl⟩
   ·exact ⟨ι', hs.put hst hd hv, hst⟩
   ·exact ⟨ι', hs.put hst hd hv, hst⟩
  have nocall_case : noCall (compileOp P o.op) = some op → o.wp P a w (fun a' w' => ∃ ι', SRel nt ι' h1 (put t o.dst v) a' w' ∧ Step ι h w ι' h1 w') Q := by
   intro hnc
   unfold noCall at hnc
   split at hnc
   ·cases hnc
   ·rename_i hno
    refine pure_case hnc ?_
    unfold evalA at hev
    split at hev
    ·rename_i f args
     exact (hno f args hnc).elim
    ·exact hev
  have keep_case : keepOp nm (noCall (compileOp P o.op)) = some op → o.wp P a w (fun a' w' => ∃ ι', SRel nt ι' h1 (put t o.dst v) a' w' ∧ Step ι h w ι' h1 w') Q := by
   intro hk
   unfold keepOp at hk
   split at hk
   ·rename_i n b s x hnc
    split at hk
    ·injection hk with hk
     subst hk
     refine keepS_case n b s x ?_ hev
     unfold noCall at hnc
     split at hnc
     ·cases hnc
     ·exact hnc
    ·exact nocall_case (hnc.trans hk)
   ·exact nocall_case hk
  unfold compileOpN at hop
  split at hop
  ·rename_i c hoc
   split at hop
   ·rename_i f hcal
    split at hop
    ·rename_i n fn hn hf
     split at hop
     ·rename_i hcond
      obtain ⟨hb, hnn, hoa⟩ := hcond
      injection hop with hop
      subst hop
      simp only [evalA] at hev
      have hargs : CRel ι h.length (c.args.toList.map (Ev t)) (c.args.map a.eval).toList := by
       refine crel_of (by simp) fun i q1 q2 => ?_
       have hi : i < c.args.toList.length := by simpa using q1
       simp only [List.getElem_map, Array.toList_map]
       exact hs.erel _ (List.all_eq_true.1 hoa _ (List.getElem_mem hi))
      have hcl := hcalls.1 n _ _ _ _ hev f hn ι w _ hs.rel hargs
      unfold Oper.wp
      rw [callNext hoc hcal hf hb hnn a.eval rfl]
      simp only [Oper.upon]
      rw [Array.toArray_toList] at hcl
      refine hcl.mono ?_
      rintro e w' ⟨ι', v', rfl, hst, hv⟩
      exact ⟨ι', hs.put hst hd hv, hst⟩
     ·cases hop
    ·cases hop
   ·rename_i i hcal
    split at hop
    ·rename_i hoa
     injection hop with hop
     subst hop
     simp only [evalA, List.map_cons] at hev
     obtain ⟨f, first, caps, fn, hfv, hf, hb, hnn, hok⟩ := hcalls.2 _ _ _ _ _ hev
     have hti := hs.tmps i
     simp only [Ev] at hfv
     rw [hfv] at hti
     obtain ⟨first', caps', hx', hr1, hr2⟩ := hti.func_inv
     have hargs : CRel ι h.length (first.toList ++ c.args.toList.map (Ev t) ++ caps.toList) (first'.toList ++ (c.args.map a.eval).toList ++ caps'.toList) := by
      refine crel_append (crel_append hr1 ?_) hr2
      refine crel_of (by simp) fun i q1 q2 => ?_
      have hi : i < c.args.toList.length := by simpa using q1
      simp only [List.getElem_map, Array.toList_map]
      exact hs.erel _ (List.all_eq_true.1 hoa _ (List.getElem_mem hi))
     have hcl := hok ι w _ hs.rel hargs
     unfold Oper.wp
     rw [callNextD hoc hcal hf hb hnn a.eval (first' := first') (caps' := caps') (by simpa [Act.eval] using hx')]
     simp only [Oper.upon]
     rw [List.append_toArray_aux] at hcl
     refine hcl.mono ?_
     rintro e w' ⟨ι', v', rfl, hst, hv⟩
     exact ⟨ι', hs.put hst hd hv, hst⟩
    ·cases hop
   ·exact keep_case hop
  ·exact nocall_case hop
 ·intro hwf
  rw [hwf] at hx
  simp only [Bool.false_eq_true, if_false] at hx
  injection hx with hx
  injection hx with e1 e2
  subst e1 e2
  exact ⟨hs.put (.refl hs.rel) hd .undef, rfl⟩
end
end Go.Wb
namespace Go.Wb
open Go
def aopOperands : AOp → List Operand
 | .move x | .box x | .load _ x | .nilCheck x | .nilv _ x | .un _ x | .convInt _ x | .convStr x | .strBytes x | .bytesStr x | .iface _ x | .fieldAddr _ x | .field _ _ x | .len x | .lenStr x | .extract x _ | .slArr _ _ x => [x]
 | .pick c a b => [c, a, b]
 | .alloc _ | .const _ => []
 | .build _ ps | .buildSlice _ _ _ ps => ps.map fun p => p.2.2
 | .store _ a x => [a, x]
 | .bin _ x y | .binB _ x y | .eqv _ _ x y | .max2 x y | .min2 x y => [x, y]
 | .func _ f c => f ++ c
 | .makeSlice _ _ _ l c => [l, c]
 | .sliceSl _ x lo hi | .sliceStr x lo hi | .sliceArr _ _ x lo hi => [x] ++ lo.toList ++ hi.toList
 | .idxAddrArr _ _ x i | .idxAddrSl _ x i | .idxArr _ _ _ x i | .idxStr x i => [x, i]
 | .append _ _ s x => [s, x]
 | .appendS _ _ s x => [s, x]
 | .copy _ d s => [d, s]
 | .call _ args => args
def tmpsOf : List Operand → List Tmp
 | [] => []
 | .tmp i :: l => i :: tmpsOf l
 | _ :: l => tmpsOf l
def readsOf (o : AOper) : List Tmp := tmpsOf (aopOperands o.op) ++ (match o.guard with | some (d, _) => [d] | none => [])
def isR : AOp → Bool
 | .bytesStr .. | .sliceArr .. => true
 | _ => false
def isSA : AOp → Bool
 | .sliceArr _ _ (.tmp _) _ _ => true
 | _ => false
def keepsB : AOp → Bool
 | .alloc .. | .box .. | .buildSlice .. | .makeSlice .. | .strBytes .. => true
 | _ => false
def isLoad : AOp → Bool
 | .load .. => true
 | _ => false
def isAl (o : AOper) : Bool :=
 match o.op, o.guard with
 | .alloc _, none => o.dst.isSome
 | _, _ => false
theorem isAl_inv {o : AOper} (h : isAl o = true) : ∃ zs d, o.op = .alloc zs ∧ o.guard = none ∧ o.dst = some d := by
 unfold isAl at h
 split at h
 ·rename_i zs h1 h2
  obtain ⟨d, hd⟩ := Option.isSome_iff_exists.1 h
  exact ⟨zs, d, h1, h2, hd⟩
 ·cases h
theorem isAl_E {o : AOper} (h : isAl o = true) : isE o.op = true := by
 obtain ⟨zs, d, h1, _⟩ := isAl_inv h
 rw [h1]; rfl
def maskOf (acc : List Nat) (o : Oper) : Nat :=
 o.after.toList.foldl (fun s e => if Region.binds .any e then s ||| (2 ^ e.on ||| acc.getD e.on 0) else s) 0
def ancs : List Oper → List Nat → List Nat
 | [], acc => acc
 | o :: l, acc => ancs l (acc ++ [maskOf acc o])
def depends (x y : AOper) : Bool :=
 (match x.dst with | some d => (readsOf y).contains d || y.dst == some d | none => false) ||
 (match y.dst with | some d => (readsOf x).contains d | none => false) ||
 (isE x.op && isE y.op && !isAl y) || (isE x.op && isR y.op && !(keepsB x.op && isSA y.op)) || (isR x.op && isE y.op && !(isSA x.op && keepsB y.op))
def cnt (l : List AOper) (k : Nat) : Nat := ((l.take k).filter fun o => isE o.op).length
def cntL (l : List AOper) (k : Nat) : Nat := ((l.take k).filter fun o => isLoad o.op).length
def anc (m : List Nat) (j i : Nat) : Bool := (m.getD j 0).testBit i
def stageOk (l : List AOper) (m : List Nat) (i s : Nat) : Bool :=
 (List.range l.length).all fun e => match l[e]? with
  | some o => !isE o.op || ((!anc m i e || decide (cnt l e < s)) && (!anc m e i || decide (s ≤ cnt l e)))
  | none => true
def pairsOf (l : List AOper) (m : List Nat) : List (Nat × Nat) :=
 (List.range l.length).flatMap fun i => match l[i]? with
  | some o => if isLoad o.op then ((List.range (cnt l l.length + 1)).filter fun s => s != cnt l i && stageOk l m i s).map fun s => (cntL l i, s) else []
  | none => []
def edgesBack (ops : List Oper) : Bool :=
 (List.range ops.length).all fun j => match ops[j]? with
  | some o => o.after.toList.all fun e => !Region.binds .any e || decide (e.on < j)
  | none => true
def depsOk (l : List AOper) (m : List Nat) : Bool :=
 (List.range l.length).all fun j => (List.range j).all fun i => match l[i]?, l[j]? with
  | some x, some y => !depends x y || anc m j i
  | _, _ => true
def looksO (o : Oper) (d : Tmp) : Bool := o.op.operands.toList.any fun x => match x with | .tmp i => i == d | _ => false
def alOk (ops : List Oper) (l : List AOper) (m : List Nat) : Bool :=
 (List.range l.length).all fun e => match l[e]?, ops[e]? with
  | some a, some oe => !isAl a || ((match oe.op with | .alloc _ => true | _ => false) && (List.range l.length).all fun j => match l[j]?, ops[j]? with
   | some aj, some oj =>
     (!anc m j e || (List.range e).all fun k => match l[k]? with
      | some o => !isE o.op || anc m j k
      | none => true) &&
     (j == e || (match a.dst with
      | some d => !(looksO oj d) || (if e < j then anc m j e else anc m e j)
      | none => true))
   | _, _ => true)
  | _, _ => true
def drawOk (ops : List Oper) (l : List AOper) : Option (List (Nat × Nat)) :=
 if edgesBack ops && depsOk l (ancs ops []) && alOk ops l (ancs ops []) then some (pairsOf l (ancs ops [])) else none
theorem ev_congr {t t' : T} : ∀ {x : Operand}, (∀ i, x = .tmp i → t i = t' i) → Ev t x = Ev t' x
 | .tmp i, h => h i rfl
 | .const _, _ => rfl
 | .global _, _ => rfl
 | .func _, _ => rfl
theorem mem_tmpsOf {i : Tmp} : ∀ {l : List Operand}, Operand.tmp i ∈ l → i ∈ tmpsOf l
 | [], h => by cases h
 | x :: l, h => by
   cases h with
   | head => simp [tmpsOf]
   | tail _ h => have := mem_tmpsOf h; cases x <;> simp [tmpsOf, this]
theorem bound_congr {t t' : T} {a b : Nat} {x : Option Operand} (h : ∀ y, x = some y → Ev t y = Ev t' y) : bound t a b x = bound t' a b x := by
 cases x with
 | none => rfl
 | some y => simp only [bound]; rw [h y rfl]
theorem fillL_congr {t t' : T} : ∀ {cs : List Value} {ps : List (Nat × Nat × Operand)}, (∀ p ∈ ps, Ev t p.2.2 = Ev t' p.2.2) → fillL t cs ps = fillL t' cs ps
 | cs, [], _ => rfl
 | cs, (o, s, x) :: ps, h => by
   simp only [fillL]
   have h1 : Ev t x = Ev t' x := h (o, s, x) (by simp)
   rw [h1]
   split
   ·exact fillL_congr (fun p hp => h p (by simp [hp]))
   ·rfl
theorem map_congr {t t' : T} {l : List Operand} (h : ∀ x ∈ l, Ev t x = Ev t' x) : l.map (Ev t) = l.map (Ev t') := List.map_congr_left h
theorem evalA_congr {call : CallF} {op : AOp} {t t' : T} {h : Heap} (hh : ∀ x ∈ aopOperands op, Ev t x = Ev t' x) : evalA call op t h = evalA call op t' h := by
 cases op <;> simp only [evalA, aOp, aopOperands, forall_eq, List.mem_cons, List.not_mem_nil, or_false, forall_eq_or_imp] at hh ⊢ <;>
  first
  | rfl
  | (rw [hh]; done)
  | (rw [hh.1, hh.2]; done)
  | (rw [hh.1, hh.2.1, hh.2.2]; done)
  | (rw [fillL_congr (fun p hp => hh _ (List.mem_map.2 ⟨p, hp, rfl⟩))]; done)
  | (rw [map_congr (fun x hx => hh x (List.mem_append.2 (.inl hx))), map_congr (fun x hx => hh x (List.mem_append.2 (.inr hx)))]; done)
  | (rw [map_congr hh]; done)
  | skip
 ·rename_i size x lo hi
  have hx : Ev t x = Ev t' x := hh x (by simp)
  have hl : ∀ y, lo = some y → Ev t y = Ev t' y := fun y hy => hh y (by simp [hy])
  have hhi : ∀ y, hi = some y → Ev t y = Ev t' y := fun y hy => hh y (by simp [hy])
  simp only [hx, bound_congr hl, bound_congr hhi]
 ·rename_i x lo hi
  have hx : Ev t x = Ev t' x := hh x (by simp)
  have hl : ∀ y, lo = some y → Ev t y = Ev t' y := fun y hy => hh y (by simp [hy])
  have hhi : ∀ y, hi = some y → Ev t y = Ev t' y := fun y hy => hh y (by simp [hy])
  simp only [hx, bound_congr hl, bound_congr hhi]
 ·rename_i n size x lo hi
  have hx : Ev t x = Ev t' x := hh x (by simp)
  have hl : ∀ y, lo = some y → Ev t y = Ev t' y := fun y hy => hh y (by simp [hy])
  have hhi : ∀ y, hi = some y → Ev t y = Ev t' y := fun y hy => hh y (by simp [hy])
  simp only [hx, bound_congr hl, bound_congr hhi]
theorem pure_any {call : CallF} {op : AOp} {t : T} {h h' h2 : Heap} {v : Value} (he : isE op = false) (hr : isR op = false) (hl : isLoad op = false) (hx : evalA call op t h = some (v, h')) :
 h' = h ∧ evalA call op t h2 = some (v, h2) := by
 cases op <;> first | (cases he; done) | (cases hr; done) | (cases hl; done) | skip
 all_goals
  simp only [evalA, aOp] at hx ⊢
  first
  | (injection hx with hx; injection hx with e1 e2; subst e1 e2; exact ⟨rfl, rfl⟩)
  | (rw [Option.map_eq_some_iff] at hx; obtain ⟨u, hu, hx⟩ := hx; injection hx with e1 e2; subst e1 e2; rw [hu]; exact ⟨rfl, rfl⟩)
  | ((repeat' split at hx) <;> first
      | (cases hx; done)
      | (injection hx with hx; injection hx with e1 e2; subst e1 e2; exact ⟨rfl, by simp [*]⟩)
      | (rw [Option.map_eq_some_iff] at hx; obtain ⟨u, hu, hx⟩ := hx; injection hx with e1 e2; subst e1 e2; exact ⟨rfl, by simp [*]⟩))
theorem heap_same {call : CallF} {op : AOp} {t : T} {h h' : Heap} {v : Value} (he : isE op = false) (hx : evalA call op t h = some (v, h')) : h' = h := by
 cases op <;> first | (cases he; done) | skip
 all_goals
  simp only [evalA, aOp] at hx
  first
  | (injection hx with hx; injection hx with e1 e2; exact e2.symm)
  | (rw [Option.map_eq_some_iff] at hx; obtain ⟨u, hu, hx⟩ := hx; injection hx with e1 e2; exact e2.symm)
  | ((repeat' split at hx) <;> first
      | (cases hx; done)
      | (injection hx with hx; injection hx with e1 e2; exact e2.symm)
      | (rw [Option.map_eq_some_iff] at hx; obtain ⟨u, hu, hx⟩ := hx; injection hx with e1 e2; exact e2.symm))
end Go.Wb
namespace Go.Wb
open Go
structure Trace (call : CallF) (l : List AOper) (t : T) (h : Heap) (ts : Nat → T) (hs : Nat → Heap) (vs : Nat → Value) (G : List Heap) (L : List LoadRec) : Prop where
 t0 : ts 0 = t
 h0 : hs 0 = h
 step : ∀ k o, l[k]? = some o → ts (k + 1) = put (ts k) o.dst (vs k) ∧
  ((wantedA o.guard (ts k) = true ∧ evalA call o.op (ts k) (hs k) = some (vs k, hs (k + 1))) ∨ (wantedA o.guard (ts k) = false ∧ vs k = undef ∧ hs (k + 1) = hs k))
 stages : ∀ k, k ≤ l.length → (h :: G)[cnt l k]? = some (hs k)
 loads : ∀ k o, l[k]? = some o → isLoad o.op = true → ∃ r, L[cntL l k]? = some r ∧ [r] = loadRec o (ts k) (hs k)
 len : G.length = cnt l l.length
theorem cnt_zero (l : List AOper) : cnt l 0 = 0 := by simp [cnt]
theorem cnt_cons (o : AOper) (l : List AOper) (k : Nat) : cnt (o :: l) (k + 1) = (if isE o.op then 1 else 0) + cnt l k := by
 simp only [cnt, List.take_succ_cons, List.filter_cons]
 split <;> simp; omega
theorem cntL_cons (o : AOper) (l : List AOper) (k : Nat) : cntL (o :: l) (k + 1) = (if isLoad o.op then 1 else 0) + cntL l k := by
 simp only [cntL, List.take_succ_cons, List.filter_cons]
 split <;> simp; omega
theorem step_inv {call : CallF} {o : AOper} {t t' : T} {h h' : Heap} (hx : stepA call o t h = some (t', h')) :
 ∃ v, t' = put t o.dst v ∧ ((wantedA o.guard t = true ∧ evalA call o.op t h = some (v, h')) ∨ (wantedA o.guard t = false ∧ v = undef ∧ h' = h)) := by
 unfold stepA at hx
 split at hx
 ·rename_i hw
  split at hx
  ·rename_i v h1 hev
   injection hx with hx
   injection hx with e1 e2
   subst e1 e2
   exact ⟨v, rfl, .inl ⟨hw, hev⟩⟩
  ·cases hx
 ·rename_i hw
  injection hx with hx
  injection hx with e1 e2
  subst e1 e2
  exact ⟨undef, rfl, .inr ⟨by simpa using hw, rfl, rfl⟩⟩
theorem step_heap {call : CallF} {o : AOper} {t t' : T} {h h' : Heap} (hx : stepA call o t h = some (t', h')) (he : isE o.op = false) : h' = h := by
 obtain ⟨v, _, h1 | h1⟩ := step_inv hx
 ·exact heap_same he h1.2
 ·exact h1.2.2
theorem loadRec_length (o : AOper) (t : T) (h : Heap) : (loadRec o t h).length = if isLoad o.op then 1 else 0 := by
 unfold loadRec
 cases o.op <;> simp only [isLoad, List.length_nil, Bool.false_eq_true, if_false, if_true]
 split
 ·split <;> rfl
 ·rfl
theorem trace_of {call : CallF} : ∀ {l : List AOper} {t t' : T} {h h' : Heap} {G : List Heap} {L : List LoadRec}, execLog call l t h = some (t', h', G, L) →
 ∃ ts hs vs, Trace call l t h ts hs vs G L ∧ ts l.length = t' ∧ hs l.length = h'
 | [], t, t', h, h', G, L, hx => by
   simp only [execLog] at hx
   injection hx with hx
   injection hx with e1 hx
   injection hx with e2 hx
   injection hx with e3 e4
   subst e1 e2 e3 e4
   refine ⟨fun _ => t, fun _ => h, fun _ => undef, ⟨rfl, rfl, fun k o ho => by simp at ho, fun k hk => ?_, fun k o ho => by simp at ho, rfl⟩, rfl, rfl⟩
   simp [cnt]
 | o :: l, t, t', h, h', G, L, hx => by
   simp only [execLog] at hx
   split at hx
   ·rename_i t1 h1 hst
    split at hx
    ·rename_i t2 h2 G2 L2 hrest
     injection hx with hx
     injection hx with e1 hx
     injection hx with e2 hx
     injection hx with e3 e4
     subst e1 e2 e3 e4
     obtain ⟨ts, hs, vs, tr, q1, q2⟩ := trace_of hrest
     obtain ⟨v, hv, hcase⟩ := step_inv hst
     refine ⟨fun k => match k with | 0 => t | k + 1 => ts k, fun k => match k with | 0 => h | k + 1 => hs k, fun k => match k with | 0 => v | k + 1 => vs k, ⟨rfl, rfl, ?_, ?_, ?_, ?_⟩, q1, q2⟩
     ·intro k o' ho
      cases k with
      | zero =>
        simp only [List.getElem?_cons_zero] at ho
        injection ho with ho
        subst ho
        simp only [tr.t0, tr.h0]
        exact ⟨hv, hcase⟩
      | succ k => exact tr.step k o' (by simpa using ho)
     ·intro k hk
      cases k with
      | zero => simp [cnt_zero]
      | succ k =>
        rw [cnt_cons]
        have := tr.stages k (by simpa using hk)
        by_cases he : isE o.op = true
        ·simp only [he, if_true]
         rw [Nat.add_comm, List.getElem?_cons_succ]
         exact this
        ·have he : isE o.op = false := by simpa using he
         have hh := step_heap hst he
         subst hh
         simp only [he, Bool.false_eq_true, if_false, Nat.zero_add]
         exact this
     ·intro k o' ho hl
      cases k with
      | zero =>
        simp only [List.getElem?_cons_zero] at ho
        injection ho with ho
        subst ho
        have hlen := loadRec_length o t h
        rw [hl] at hlen
        simp only [if_true] at hlen
        obtain ⟨r, hr⟩ := List.length_eq_one_iff.1 hlen
        refine ⟨r, ?_, hr.symm⟩
        rw [hr]
        simp [cntL]
      | succ k =>
        obtain ⟨r, hr1, hr2⟩ := tr.loads k o' (by simpa using ho) hl
        refine ⟨r, ?_, hr2⟩
        rw [cntL_cons]
        have hlen := loadRec_length o t h
        rw [List.getElem?_append_right (by rw [hlen]; omega), hlen]
        rw [show (if isLoad o.op = true then 1 else 0) + cntL l k - (if isLoad o.op = true then 1 else 0) = cntL l k by omega]
        exact hr1
     ·rw [List.length_cons, cnt_cons]
      have := tr.len
      by_cases he : isE o.op = true
      ·simp only [he, if_true, List.length_cons]; omega
      ·simp only [he, Bool.false_eq_true, if_false]; omega
    ·cases hx
   ·cases hx
def tD (l : List AOper) (vs : Nat → Value) (t : T) (D : Nat → Bool) : Nat → T
 | 0 => t
 | k + 1 => match D k, l[k]? with
   | true, some o => put (tD l vs t D k) o.dst (vs k)
   | _, _ => tD l vs t D k
theorem put_other {t : T} {d : Option Tmp} {v : Value} {i : Tmp} (h : d ≠ some i) : put t d v i = t i := by
 cases d with
 | none => rfl
 | some k =>
   simp only [put, upd]
   rw [if_neg]
   intro he
   exact h (by rw [he])
theorem put_same {t : T} {v : Value} {i : Tmp} : put t (some i) v i = v := by simp [put, upd]
theorem tD_agree {l : List AOper} {vs : Nat → Value} {t : T} {D D' : Nat → Bool} {i : Tmp} : ∀ (n : Nat), (∀ k o, k < n → l[k]? = some o → o.dst = some i → D k = D' k) → tD l vs t D n i = tD l vs t D' n i
 | 0, _ => rfl
 | n + 1, h => by
   have ih := tD_agree (vs := vs) (t := t) n (fun k o hk => h k o (by omega))
   simp only [tD]
   cases hl : l[n]? with
   | none =>
     cases D n <;> cases D' n <;> exact ih
   | some o =>
     by_cases hd : o.dst = some i
     ·have := h n o (by omega) hl hd
      rw [this]
      cases D' n
      ·exact ih
      ·simp only [hd, put_same]
     ·cases D n <;> cases D' n <;> simp only [put_other hd] <;> exact ih
theorem tD_prefix {call : CallF} {l : List AOper} {t : T} {h : Heap} {ts : Nat → T} {hs : Nat → Heap} {vs : Nat → Value} {G : List Heap} {L : List LoadRec} (tr : Trace call l t h ts hs vs G L) (j : Nat) :
 ∀ n, n ≤ l.length → tD l vs t (fun k => decide (k < j)) n = ts (min n j)
 | 0, _ => by simp [tD, tr.t0]
 | n + 1, hn => by
   have ih := tD_prefix tr j n (by omega)
   have hl : l[n]? = some l[n] := List.getElem?_eq_getElem (by omega)
   simp only [tD, hl]
   by_cases hj : n < j
   ·rw [show min (n + 1) j = n + 1 by omega, (tr.step n _ hl).1]
    rw [ih, show min n j = n by omega]
    simp [hj]
   ·rw [show min (n + 1) j = min n j by omega, ← ih]
    simp [hj]
theorem tD_insert {l : List AOper} {vs : Nat → Value} {t : T} {D D' : Nat → Bool} {j : Nat} {o : AOper} (ho : l[j]? = some o) (hD : ∀ k, D' k = (D k || k == j)) :
 ∀ n, j < n → (∀ k o', j < k → k < n → l[k]? = some o' → D k = true → ∀ i, o.dst = some i → o'.dst ≠ some i) → tD l vs t D' n = put (tD l vs t D n) o.dst (vs j) ∨ D j = true
 | 0, hn, _ => by omega
 | n + 1, hn, hlate => by
   by_cases hjn : j = n
   ·subst hjn
    by_cases hdj : D j = true
    ·exact .inr hdj
    ·left
     have hdj : D j = false := by simpa using hdj
     simp only [tD, ho, hD j, hdj, Bool.false_or, beq_self_eq_true]
     congr 1
     funext i
     refine tD_agree j fun k o' hk _ _ => ?_
     rw [hD k]
     have : (k == j) = false := by simp; omega
     rw [this, Bool.or_false]
   ·have ih := tD_insert (vs := vs) (t := t) ho hD n (by omega) (fun k o' h1 h2 => hlate k o' h1 (by omega))
    rcases ih with ih | ih
    ·left
     have hn' : D' n = D n := by rw [hD n]; have : (n == j) = false := by simp; omega
                                 rw [this, Bool.or_false]
     simp only [tD, hn']
     cases hl : l[n]? with
     | none => cases D n <;> exact ih
     | some o' =>
       cases hdn : D n with
       | false => exact ih
       | true =>
         simp only
         rw [ih]
         funext i
         by_cases h1 : o'.dst = some i
         ·rw [h1, put_same]
          by_cases h2 : o.dst = some i
          ·exact absurd h1 (hlate n o' (by omega) (by omega) hl hdn i h2)
          ·rw [put_other h2, put_same]
         ·rw [put_other h1]
          by_cases h2 : o.dst = some i
          ·rw [h2, put_same, put_same]
          ·rw [put_other h2, put_other h2, put_other h1]
    ·exact .inr ih
theorem fold_mask (acc : List Nat) (D : Nat → Bool) (hacc : ∀ e i, D e = true → (acc.getD e 0).testBit i = true → D i = true) : ∀ (es : List Edge) (s : Nat), (∀ i, s.testBit i = true → D i = true) → (∀ e ∈ es, Region.binds .any e = true → D e.on = true) →
 ∀ i, (es.foldl (fun s e => if Region.binds .any e then s ||| (2 ^ e.on ||| acc.getD e.on 0) else s) s).testBit i = true → D i = true
 | [], s, hs, _, i, hi => hs i hi
 | e :: es, s, hs, he, i, hi => by
   simp only [List.foldl_cons] at hi
   refine fold_mask acc D hacc es _ ?_ (fun x hx => he x (by simp [hx])) i hi
   intro i hi
   split at hi
   ·rename_i hb
    have hd := he e (by simp) hb
    simp only [Nat.testBit_or, Bool.or_eq_true] at hi
    rcases hi with hi | hi | hi
    ·exact hs i hi
    ·rw [Nat.testBit_two_pow] at hi
     have : e.on = i := by simpa using hi
     rw [← this]; exact hd
    ·exact hacc e.on i hd hi
   ·exact hs i hi
theorem ancs_length : ∀ (l : List Oper) (acc : List Nat), (ancs l acc).length = acc.length + l.length
 | [], acc => by simp [ancs]
 | o :: l, acc => by simp only [ancs]; rw [ancs_length l]; simp; omega
theorem ancs_get : ∀ (l : List Oper) (acc : List Nat) (i : Nat), i < acc.length → (ancs l acc).getD i 0 = acc.getD i 0
 | [], acc, i, _ => rfl
 | o :: l, acc, i, hi => by
   simp only [ancs]
   rw [ancs_get l _ i (by simp; omega)]
   simp [List.getElem?_append_left hi]
theorem ancs_closed (D : Nat → Bool) : ∀ (l : List Oper) (acc : List Nat), (∀ e i, D e = true → (acc.getD e 0).testBit i = true → D i = true) →
 (∀ k o, l[k]? = some o → D (acc.length + k) = true → ∀ e ∈ o.after.toList, Region.binds .any e = true → D e.on = true) →
 (∀ e i, D e = true → ((ancs l acc).getD e 0).testBit i = true → D i = true) ∧
 (∀ k o, l[k]? = some o → (∀ e ∈ o.after.toList, Region.binds .any e = true → D e.on = true) → ∀ i, ((ancs l acc).getD (acc.length + k) 0).testBit i = true → D i = true)
 | [], acc, hacc, _ => ⟨hacc, fun k o ho => by simp at ho⟩
 | o :: l, acc, hacc, hcl => by
   have hm : (∀ e ∈ o.after.toList, Region.binds .any e = true → D e.on = true) → ∀ i, (maskOf acc o).testBit i = true → D i = true := fun he => fold_mask acc D hacc o.after.toList 0 (fun i hi => by simp at hi) he
   have hacc2 : ∀ e i, D e = true → ((acc ++ [maskOf acc o]).getD e 0).testBit i = true → D i = true := by
    intro e i hd hi
    rcases Nat.lt_trichotomy e acc.length with h1 | h1 | h1
    ·exact hacc e i hd (by simpa [List.getD, List.getElem?_append_left h1] using hi)
    ·subst h1
     have he := hcl 0 o (by simp) (by simpa using hd)
     exact hm he i (by simpa [List.getD] using hi)
    ·have : (acc ++ [maskOf acc o]).getD e 0 = 0 := by simp [List.getD, List.getElem?_eq_none (show (acc ++ [maskOf acc o]).length ≤ e by simp; omega)]
     rw [this] at hi
     simp at hi
   obtain ⟨q1, q2⟩ := ancs_closed D l (acc ++ [maskOf acc o]) hacc2 (fun k o' ho hd => hcl (k + 1) o' (by simpa using ho) (by rw [List.length_append] at hd; simp only [List.length_singleton] at hd; rw [show acc.length + (k + 1) = acc.length + 1 + k by omega]; exact hd))
   simp only [ancs]
   refine ⟨q1, fun k o' ho he i hi => ?_⟩
   cases k with
   | zero =>
     simp only [List.getElem?_cons_zero] at ho
     injection ho with ho
     subst ho
     rw [Nat.add_zero, ancs_get l _ acc.length (by simp)] at hi
     exact hm he i (by simpa [List.getD] using hi)
   | succ k =>
     refine q2 k o' (by simpa using ho) he i ?_
     rw [List.length_append]
     simp only [List.length_singleton]
     rw [show acc.length + 1 + k = acc.length + (k + 1) by omega]
     exact hi
theorem cnt_succ {l : List AOper} {k : Nat} {o : AOper} (ho : l[k]? = some o) : cnt l (k + 1) = cnt l k + if isE o.op then 1 else 0 := by
 have hk : k < l.length := by
  rcases Nat.lt_or_ge k l.length with h1 | h1
  ·exact h1
  ·simp [List.getElem?_eq_none h1] at ho
 have he : l[k] = o := by rw [List.getElem?_eq_getElem hk] at ho; injection ho
 simp only [cnt]
 rw [List.take_succ_eq_append_getElem hk, List.filter_append, List.length_append, he]
 congr 1
 simp only [List.filter_cons, List.filter_nil]
 split <;> rfl
theorem cnt_mono {l : List AOper} {i : Nat} : ∀ {j : Nat}, i ≤ j → j ≤ l.length → cnt l i ≤ cnt l j
 | 0, h, _ => by
   have : i = 0 := by omega
   subst this; exact Nat.le_refl _
 | j + 1, h, hl => by
   rcases Nat.lt_or_ge i (j + 1) with h1 | h1
   ·have ih := cnt_mono (l := l) (show i ≤ j by omega) (by omega)
    rw [cnt_succ (List.getElem?_eq_getElem (show j < l.length by omega))]
    omega
   ·have : i = j + 1 := by omega
    subst this; exact Nat.le_refl _
theorem cnt_prev {l : List AOper} : ∀ {j : Nat}, j ≤ l.length → 0 < cnt l j → ∃ e o, e < j ∧ l[e]? = some o ∧ isE o.op = true ∧ cnt l e + 1 = cnt l j
 | 0, _, h => by simp [cnt] at h
 | j + 1, hl, h => by
   have hj : l[j]? = some l[j] := List.getElem?_eq_getElem (by omega)
   have hs := cnt_succ hj
   by_cases he : isE l[j].op = true
   ·exact ⟨j, _, by omega, hj, he, by rw [hs, if_pos he]⟩
   ·rw [if_neg he] at hs
    obtain ⟨e, o, h1, h2, h3, h4⟩ := cnt_prev (l := l) (j := j) (by omega) (by omega)
    exact ⟨e, o, by omega, h2, h3, by omega⟩
theorem cnt_next {l : List AOper} {j : Nat} : ∀ {n : Nat}, j ≤ n → n ≤ l.length → cnt l j < cnt l n → ∃ e o, j ≤ e ∧ e < n ∧ l[e]? = some o ∧ isE o.op = true ∧ cnt l e = cnt l j
 | 0, h, _, hc => by simp [cnt] at hc
 | n + 1, h, hl, hc => by
   rcases Nat.lt_or_ge j (n + 1) with h1 | h1
   ·rcases Nat.lt_or_ge (cnt l j) (cnt l n) with h2 | h2
    ·obtain ⟨e, o, q1, q2, q3⟩ := cnt_next (l := l) (j := j) (n := n) (by omega) (by omega) h2
     exact ⟨e, o, q1, by omega, q3⟩
    ·have h3 := cnt_mono (l := l) (show j ≤ n by omega) (by omega)
     have hn : l[n]? = some l[n] := List.getElem?_eq_getElem (by omega)
     have hs := cnt_succ hn
     by_cases he : isE l[n].op = true
     ·exact ⟨n, _, by omega, by omega, hn, he, by omega⟩
     ·rw [if_neg he] at hs; omega
   ·have : j = n + 1 := by omega
    subst this; omega
end Go.Wb
namespace Go.Wb
open Go
def RoM (h h' : Heap) : Prop := ∀ (b : Nat) (cs : List Value), h'[b]? = some (Blk.mem true cs) → h[b]? = some (Blk.mem true cs)
theorem RoM.refl (h : Heap) : RoM h h := fun _ _ hb => hb
theorem RoM.trans {h h1 h2 : Heap} (a : RoM h h1) (b : RoM h1 h2) : RoM h h2 := fun x cs hx => a x cs (b x cs hx)
theorem RoM.new (h : Heap) (cs : List Value) : RoM h (newBlk h cs) := by
 intro b cs' hb
 rw [get_new] at hb
 split at hb
 ·exact hb
 ·split at hb
  ·injection hb with hb; cases hb
  ·cases hb
theorem RoM.set {h : Heap} {k : Nat} {x : Blk} (hx : ∀ cs, x ≠ .mem true cs) : RoM h (h.set k x) := by
 intro b cs hb
 rw [List.getElem?_set] at hb
 split at hb
 ·split at hb
  ·injection hb with hb; exact absurd hb (hx cs)
  ·cases hb
 ·exact hb
def EnvRo (E : Env) : Prop := ∀ n g, E n = some (.prim g) → ∀ args h v h', g args h = some (v, h') → RoM h h'
structure Fresh (B0 : Nat) (ι : Inj) (h : Heap) (w : World) (B : Nat) (zs : List Value) : Prop where
 ge : B0 ≤ B
 lt : B < w.heap.size
 obj : ∃ (c : Array Value) (e : TypeId), w.heap[B]? = some (.cells c e (0, 0)) ∧ (∀ ι n, CRel ι n zs c.toList) ∧ ∀ u ∈ c.toList, u.oneCell' = true
 out : ∀ b ro cs, h[b]? = some (.mem ro cs) → (ro = false ∨ cs ≠ []) → (ι b).blk ≠ B
theorem rel_ghost {B0 : Nat} {ι : Inj} {h : Heap} {w : World} {B : Nat} {zs : List Value} (hr : Rel ι h w) (hf : Fresh B0 ι h w B zs) :
 ∃ n, Rel (ι.set h.length ⟨B, 0, n⟩) (newBlk h zs) w := by
 obtain ⟨c, e, hB, hc, h1⟩ := hf.obj
 have hl : zs.length = c.size := by simpa using (hc ι 0).1
 refine ⟨c.size, ?_⟩
 have hold : ∀ b, b < h.length → ι.set h.length ⟨B, 0, c.size⟩ b = ι b := fun b hb => Inj.set_other (by omega)
 constructor
 ·intro b ro cs' hb i hi
  rw [get_new] at hb
  split at hb
  ·rename_i hlt
   obtain ⟨v', h1, h2, h3⟩ := hr.cell b ro cs' hb i hi
   refine ⟨v', ?_, h2.mono (fun x hx => hold x hx) (by rw [length_new]; omega), h3⟩
   rw [hold b hlt]; exact h1
  ·split at hb
   ·rename_i heq
    injection hb with hb
    injection hb with hb1 hb2
    subst hb2
    subst heq
    rw [Inj.set_same]
    have h2 : i < c.size := by omega
    refine ⟨c[i], ?_, ?_, h1 _ (by simp)⟩
    ·simp [World.cell?, hB, h2]
    ·have := (hc (ι.set h.length ⟨B, 0, c.size⟩) (newBlk h zs).length).2 i
     rw [getD_eq (List.getElem?_eq_getElem (show i < c.toList.length by simpa using h2))] at this
     simpa using this
   ·cases hb
 ·intro b ro cs' hb hne
  rw [get_new] at hb
  split at hb
  ·rename_i hlt
   rw [hold b hlt]
   exact hr.inside b ro cs' hb hne
  ·split at hb
   ·rename_i heq
    subst heq
    rw [Inj.set_same]
    exact hf.lt
   ·cases hb
 ·intro b ro cs' hb
  rw [get_new] at hb
  split at hb
  ·rename_i hlt
   rw [hold b hlt]
   exact hr.fits b ro cs' hb
  ·split at hb
   ·rename_i heq
    injection hb with hb
    injection hb with hb1 hb2
    subst hb2
    subst heq
    rw [Inj.set_same]
    simp [hl]
   ·cases hb
 ·intro b cs' hb
  rw [get_new] at hb
  split at hb
  ·rename_i hlt
   rw [hold b hlt]
   exact hr.own b cs' hb
  ·split at hb
   ·rename_i heq
    subst heq
    rw [Inj.set_same]
    exact ⟨c, e, 0, 0, hB, rfl, fun o _ => by omega⟩
   ·cases hb
 ·intro b b' cs₁ ro cs₂ hb hb' hne hnz
  rw [get_new] at hb hb'
  split at hb
  ·rename_i hlt
   rw [hold b hlt]
   split at hb'
   ·rename_i hlt'
    rw [hold b' hlt']
    exact hr.apart b b' cs₁ ro cs₂ hb hb' hne hnz
   ·split at hb'
    ·rename_i heq
     subst heq
     rw [Inj.set_same]
     exact hf.out b false cs₁ hb (.inl rfl)
    ·cases hb'
  ·split at hb
   ·rename_i heq
    subst heq
    rw [Inj.set_same]
    split at hb'
    ·rename_i hlt'
     rw [hold b' hlt']
     exact fun he => hf.out b' ro cs₂ hb' hnz he.symm
    ·split at hb'
     ·rename_i heq'
      exact absurd heq'.symm hne
     ·cases hb'
   ·cases hb
theorem step_ghost {ι0 : Inj} {h0 : Heap} {w0 : World} {ι : Inj} {h : Heap} {w : World} {B : Nat} {zs : List Value} (st : Step ι0 h0 w0 ι h w) (hf : Fresh w0.heap.size ι h w B zs) :
 ∃ n, Step ι0 h0 w0 (ι.set h.length ⟨B, 0, n⟩) (newBlk h zs) w := by
 obtain ⟨n, hr⟩ := rel_ghost st.rel hf
 refine ⟨n, ?_, ?_, hr, st.size, st.frame, ?_, st.tape, st.os, st.output, ?_⟩
 ·rw [length_new]; have := st.len; omega
 ·intro b hb
  rw [length_new] at hb
  have := st.len
  rw [Inj.set_other (by omega)]
  exact st.agree b (by omega)
 ·rintro B' ⟨b, cs, hb, rfl⟩
  rw [get_new] at hb
  split at hb
  ·rename_i hlt
   rw [Inj.set_other (by omega)]
   exact st.own _ ⟨b, cs, hb, rfl⟩
  ·split at hb
   ·rename_i heq
    subst heq
    rw [Inj.set_same]
    exact .inl hf.ge
   ·cases hb
 ·intro b cs hb hz
  rw [get_new] at hb
  split at hb
  ·rename_i hlt
   rw [Inj.set_other (by omega)]
   exact st.ro b cs hb hz
  ·split at hb
   ·injection hb with hb; cases hb
   ·cases hb
theorem step_laid {ι : Inj} {h : Heap} {w : World} (hr : Rel ι h w) (o : Obj) : Step ι h w ι h (w.alloc o) := by
 have hpush : ∀ B, B < w.heap.size → (w.alloc o).heap[B]? = w.heap[B]? := fun B hB => RowKit.Below.heap_alloc w o B hB
 have hcell : ∀ (a : Addr), a.block < w.heap.size → (w.alloc o).cell? a = w.cell? a := fun a ha => World.cell?_of_block (hpush _ ha)
 refine ⟨Nat.le_refl _, fun _ _ => rfl, ⟨?_, ?_, hr.fits, ?_, hr.apart⟩, by simp, fun B hB _ => hpush B hB, fun B ho => .inr ho, rfl, rfl, rfl, fun _ _ hb _ => .inl hb⟩
 ·intro b ro cs hb i hi
  obtain ⟨v', q1, q2, q3⟩ := hr.cell b ro cs hb i hi
  refine ⟨v', ?_, q2, q3⟩
  rw [hcell _ (hr.inside b ro cs hb (.inr (by rintro rfl; simp at hi)))]
  exact q1
 ·intro b ro cs hb hne
  have := hr.inside b ro cs hb hne
  simp; omega
 ·intro b cs hb
  obtain ⟨c, e, lo, hi, q1, q2, q3⟩ := hr.own b cs hb
  exact ⟨c, e, lo, hi, (hpush _ (own_lt hr ⟨b, cs, hb, rfl⟩)).trans q1, q2, q3⟩
theorem Fresh.step {B0 : Nat} {ι ι' : Inj} {h h' : Heap} {w w' : World} {B : Nat} {zs : List Value} (hf : Fresh B0 ι h w B zs) (st : Step ι h w ι' h' w') : Fresh B0 ι' h' w' B zs := by
 have hno : ¬ Owned ι h B := by
  rintro ⟨b, cs, hb, he⟩
  exact hf.out b false cs hb (.inl rfl) he
 refine ⟨hf.ge, Nat.lt_of_lt_of_le hf.lt st.size, ?_, ?_⟩
 ·obtain ⟨c, e, q1, q2⟩ := hf.obj
  exact ⟨c, e, (st.frame B hf.lt hno).trans q1, q2⟩
 ·intro b ro cs hb hne he
  cases ro with
  | false =>
    rcases st.own B ⟨b, cs, hb, he⟩ with h1 | h1
    ·have := hf.lt; omega
    ·exact hno h1
  | true =>
    rcases st.ro b cs hb (by rcases hne with h1 | h1; · cases h1
                             ·exact h1) with hb0 | h1 | h1
    ·rw [st.agree b (.inl (get_lt hb0))] at he
     exact hf.out b true cs hb0 hne he
    ·have := hf.lt; omega
    ·rw [he] at h1; exact hno h1
theorem alloc_run {P : Program} {nm : Names} {ρ : Operand → Value} {o : Oper} {e : TypeId} {zs : List Value} {w : World} (ho : o.op = .alloc e) (hc : compileOpN P nm o.op = some (.alloc zs)) :
 ∃ c : Array Value, (execOp ρ o).run P w = .ok (.value (.pointer (some ⟨w.heap.size, 0, none⟩))) (w.alloc (.cells c e)) ∧ (∀ ι n, CRel ι n zs c.toList) ∧ ∀ u ∈ c.toList, u.oneCell' = true := by
 obtain ⟨d, oop, ty, pos, af, gd⟩ := o
 simp only at ho
 subst ho
 have hz : zeroOf P e = some zs := by
  simp only [compileOpN, compileOp] at hc
  split at hc
  ·cases hzz : zeroOf P e with
   | none => rw [hzz] at hc; cases hc
   | some z => rw [hzz] at hc; simp only [Option.map_some, noCall] at hc; injection hc with hc; injection hc with hc; rw [hc]
  ·cases hc
 obtain ⟨i, z, hi, hzz, hv, hl, hcc⟩ := zeroOf_some hz
 subst hv
 refine ⟨z.cells, ?_, ?_, ?_⟩
 ·simp [execOp, Instr.alloc, run_zero hi hzz, newVar, newRow]
 ·intro ι n; rw [← valCells_eq]; exact const_crel hcc
 ·rw [← valCells_eq]; exact fun u hu => const_one (List.all_eq_true.1 hcc u hu)
end Go.Wb
namespace Go.Wb
open Go
section
variable {P : Program} {nm : Names} {nt : Nat} {call : CallF} {ops : Array Oper} {Q : Exit → Act → World → Prop}
theorem compileOps_get : ∀ {os : List Oper} {l : List AOper}, compileOps P nm nt ops os = some l → l.length = os.length ∧ ∀ (j : Nat) (o : Oper), os[j]? = some o → ∃ ao, l[j]? = some ao ∧ compileOper P nm nt ops o = some ao
 | [], l, h => by
   simp only [compileOps] at h
   injection h with h
   subst h
   exact ⟨rfl, fun j o ho => by simp at ho⟩
 | o :: os, l, h => by
   simp only [compileOps] at h
   split at h
   ·rename_i ao r h1 h2
    injection h with h
    subst h
    obtain ⟨q1, q2⟩ := compileOps_get h2
    refine ⟨by simp [q1], fun j o' ho => ?_⟩
    cases j with
    | zero =>
      simp only [List.getElem?_cons_zero] at ho
      injection ho with ho
      subst ho
      exact ⟨ao, rfl, h1⟩
    | succ j => exact q2 j o' (by simpa using ho)
   ·cases h
theorem countP_lt {p q : Nat → Bool} (hpq : ∀ i, q i = true → p i = true) {j : Nat} : ∀ {l : List Nat}, j ∈ l → p j = true → q j = false → l.countP q < l.countP p
 | [], h, _, _ => by cases h
 | i :: l, h, hp, hq => by
   have hle : l.countP q ≤ l.countP p := List.countP_mono_left (fun x _ hx => hpq x hx)
   by_cases hij : i = j
   ·subst hij
    simp only [List.countP_cons, hp, hq, if_true, Bool.false_eq_true, if_false]
    omega
   ·have hm : j ∈ l := by
     cases h with
     | head => exact absurd rfl hij
     | tail _ h => exact h
    have ih := countP_lt hpq hm hp hq
    simp only [List.countP_cons]
    by_cases hqi : q i = true
    ·rw [if_pos hqi, if_pos (hpq i hqi)]; omega
    ·rw [if_neg hqi]; split <;> omega
theorem checkPairs_mem {G : List Heap} {L : List LoadRec} : ∀ {ps : List (Nat × Nat)}, checkPairs G L ps → ∀ p ∈ ps, sameAt G L p
 | [], _, p, hp => by cases hp
 | q :: ps, h, p, hp => by
   cases hp with
   | head => exact h.1
   | tail _ hp => exact checkPairs_mem h.2 p hp
theorem read_dep {x : AOper} {d : Tmp} {y : AOper} (hd : x.dst = some d) (hr : d ∈ readsOf y) : depends x y = true := by
 unfold depends
 have : (readsOf y).contains d = true := by simpa using hr
 simp only [hd, this, Bool.true_or]
theorem read_dep2 {x : AOper} {d : Tmp} {y : AOper} (hd : y.dst = some d) (hr : d ∈ readsOf x) : depends x y = true := by
 unfold depends
 have : (readsOf x).contains d = true := by simpa using hr
 simp only [hd, this, Bool.or_true, Bool.true_or]
theorem write_dep {x y : AOper} {d : Tmp} (hx : x.dst = some d) (hy : y.dst = some d) : depends x y = true := by
 unfold depends
 simp only [hx, hy, beq_self_eq_true, Bool.or_true, Bool.true_or]
theorem eff_dep {x y : AOper} (hx : isE x.op = true) (hy : isE y.op = true) (ha : isAl y = false) : depends x y = true := by
 unfold depends
 simp only [hx, hy, ha, Bool.not_false, Bool.and_self, Bool.or_true, Bool.true_or]
theorem effr_dep {x y : AOper} (hx : isE x.op = true) (hy : isR y.op = true) (hk : (keepsB x.op && isSA y.op) = false) : depends x y = true := by
 unfold depends
 simp only [hx, hy, hk, Bool.not_false, Bool.and_self, Bool.or_true, Bool.true_or]
theorem reff_dep {x y : AOper} (hx : isR x.op = true) (hy : isE y.op = true) (hk : (isSA x.op && keepsB y.op) = false) : depends x y = true := by
 unfold depends
 simp only [hx, hy, hk, Bool.not_false, Bool.and_self, Bool.or_true]
def lenAt (h : Heap) (b : Nat) : Option Nat :=
 match h[b]? with
 | some (.mem _ cs) => some cs.length
 | _ => none
theorem sa_inv {op : AOp} (h : isSA op = true) : ∃ n s i lo hi, op = .sliceArr n s (.tmp i) lo hi := by
 cases op <;> try (cases h; done)
 rename_i n s x lo hi
 cases x <;> try (cases h; done)
 exact ⟨_, _, _, _, _, rfl⟩
theorem sa_val {n s i : Nat} {lo hi : Option Operand} {t : T} {h h1 : Heap} {v : Value} (hx : aOp (.sliceArr n s (.tmp i) lo hi) t h = some (v, h1)) :
 ∃ b o L, t i = .pointer (some ⟨b, o, none⟩) ∧ lenAt h b = some L ∧ b < h.length := by
 simp only [aOp] at hx
 split at hx
 ·rename_i b o hp
  split at hx
  ·rename_i ro cs hb
   refine ⟨b, o, cs.length, hp, by simp only [lenAt, hb], ?_⟩
   rcases Nat.lt_or_ge b h.length with h1 | h1
   ·exact h1
   ·simp [List.getElem?_eq_none h1] at hb
  ·cases hx
 ·cases hx
theorem sa_move {n s i : Nat} {lo hi : Option Operand} {t : T} {h h1 h2 : Heap} {v : Value} (hx : aOp (.sliceArr n s (.tmp i) lo hi) t h = some (v, h1))
 (hl : ∀ b o, t i = .pointer (some ⟨b, o, none⟩) → lenAt h2 b = lenAt h b) : aOp (.sliceArr n s (.tmp i) lo hi) t h2 = some (v, h2) := by
 simp only [aOp] at hx ⊢
 split at hx
 ·rename_i b o hp
  have hl := hl b o hp
  split at hx
  ·rename_i ro cs hb
   simp only [lenAt, hb] at hl
   split at hl
   ·rename_i ro2 cs2 hb2
    injection hl with hl
    simp only [hp, hb2, hl]
    split at hx
    ·rename_i hc
     rw [if_pos hc]
     split at hx
     ·split at hx
      ·injection hx with hx
       injection hx with e1 e2
       simp only [*]
      ·cases hx
     ·cases hx
    ·cases hx
   ·cases hl
  ·cases hx
 ·cases hx
theorem lenAt_new {h : Heap} {cs : List Value} {b : Nat} (hb : b < h.length) : lenAt (newBlk h cs) b = lenAt h b := by
 have : (newBlk h cs)[b]? = h[b]? := by simp [newBlk, List.getElem?_append_left hb]
 simp only [lenAt, this]
theorem keeps_len {op : AOp} {t : T} {h h' : Heap} {v : Value} (hk : keepsB op = true) (hx : evalA call op t h = some (v, h')) :
 ∃ cs, h' = newBlk h cs := by
 cases op <;> first | (cases hk; done) | skip
 all_goals
  simp only [evalA, aOp] at hx
  first
  | (injection hx with hx; injection hx with e1 e2; exact ⟨_, e2.symm⟩)
  | (rw [Option.map_eq_some_iff] at hx; obtain ⟨u, hu, hx⟩ := hx; injection hx with e1 e2; exact ⟨_, e2.symm⟩)
  | ((repeat' split at hx) <;> first
      | (cases hx; done)
      | (injection hx with hx; injection hx with e1 e2; exact ⟨_, e2.symm⟩)
      | (rw [Option.map_eq_some_iff] at hx; obtain ⟨u, hu, hx⟩ := hx; injection hx with e1 e2; exact ⟨_, e2.symm⟩))
theorem trace_keeps {l : List AOper} {t : T} {h : Heap} {ts : Nat → T} {hs : Nat → Heap} {vs : Nat → Value} {G : List Heap} {L : List LoadRec} (tr : Trace call l t h ts hs vs G L) {k : Nat} : ∀ {k' : Nat}, k ≤ k' → k' ≤ l.length →
 (∀ e x, k ≤ e → e < k' → l[e]? = some x → isE x.op = true → keepsB x.op = true) → (hs k).length ≤ (hs k').length ∧ ∀ b, b < (hs k).length → lenAt (hs k') b = lenAt (hs k) b
 | 0, h1, _, _ => by
   have : k = 0 := by omega
   subst this
   exact ⟨Nat.le_refl _, fun _ _ => rfl⟩
 | k' + 1, h1, h2, hE => by
   rcases Nat.lt_or_ge k (k' + 1) with hlt | hge
   ·obtain ⟨q1, q2⟩ := trace_keeps tr (k := k) (k' := k') (by omega) (by omega) (fun e x g1 g2 g3 g4 => hE e x g1 (by omega) g3 g4)
    have hk : l[k']? = some l[k'] := List.getElem?_eq_getElem (by omega)
    obtain ⟨_, h3 | h3⟩ := tr.step k' _ hk
    ·rcases Bool.eq_false_or_eq_true (isE l[k'].op) with he | he
     ·obtain ⟨cs, hcs⟩ := keeps_len (hE k' _ (by omega) (by omega) hk he) h3.2
      rw [hcs]
      refine ⟨by simp [newBlk]; omega, fun b hb => ?_⟩
      rw [lenAt_new (by omega), q2 b hb]
     ·rw [heap_same he h3.2]; exact ⟨q1, q2⟩
    ·rw [h3.2.2]; exact ⟨q1, q2⟩
   ·have : k = k' + 1 := by omega
    subst this
    exact ⟨Nat.le_refl _, fun _ _ => rfl⟩
theorem cnt_ex {l : List AOper} {s : Nat} : ∀ {n : Nat}, n ≤ l.length → s ≤ cnt l n → ∃ k, k ≤ n ∧ cnt l k = s
 | 0, _, h => ⟨0, Nat.le_refl _, by have : cnt l 0 = 0 := cnt_zero l; omega⟩
 | n + 1, hl, h => by
   by_cases hc : cnt l (n + 1) = s
   ·exact ⟨n + 1, Nat.le_refl _, hc⟩
   ·have hn : l[n]? = some l[n] := List.getElem?_eq_getElem (by omega)
    have hs := cnt_succ hn
    obtain ⟨k, h1, h2⟩ := cnt_ex (l := l) (s := s) (n := n) (by omega) (by split at hs <;> omega)
    exact ⟨k, by omega, h2⟩
theorem cnt_le {l : List AOper} {k : Nat} : ∀ {n : Nat}, k ≤ n → n ≤ l.length → cnt l k ≤ cnt l n
 | 0, h, _ => by have : k = 0 := by omega
                 subst this; exact Nat.le_refl _
 | n + 1, h, hl => by
   rcases Nat.lt_or_ge k (n + 1) with h1 | h1
   ·have hn : l[n]? = some l[n] := List.getElem?_eq_getElem (by omega)
    have hs := cnt_succ hn
    have := cnt_le (l := l) (k := k) (n := n) (by omega) (by omega)
    omega
   ·have : k = n + 1 := by omega
    subst this; exact Nat.le_refl _
theorem depsOk_spec {l : List AOper} {m : List Nat} (h : depsOk l m = true) {i j : Nat} {x y : AOper} (hij : i < j) (hi : l[i]? = some x) (hj : l[j]? = some y) (hd : depends x y = true) : anc m j i = true := by
 have hjl : j < l.length := by
  rcases Nat.lt_or_ge j l.length with h1 | h1
  ·exact h1
  ·simp [List.getElem?_eq_none h1] at hj
 have h1 := List.all_eq_true.1 h j (List.mem_range.2 hjl)
 have h2 := List.all_eq_true.1 h1 i (List.mem_range.2 hij)
 simp only [hi, hj, hd, Bool.not_true, Bool.false_or] at h2
 exact h2
theorem edgesBack_spec {l : List Oper} (h : edgesBack l = true) {j : Nat} {o : Oper} (hj : l[j]? = some o) : ∀ e ∈ o.after.toList, Region.binds .any e = true → e.on < j := by
 have hjl : j < l.length := by
  rcases Nat.lt_or_ge j l.length with h1 | h1
  ·exact h1
  ·simp [List.getElem?_eq_none h1] at hj
 have h1 := List.all_eq_true.1 h j (List.mem_range.2 hjl)
 simp only [hj] at h1
 intro e he hb
 have := List.all_eq_true.1 h1 e he
 simpa [hb] using this
theorem pairs_spec {l : List AOper} {m : List Nat} {i s : Nat} {o : AOper} (hi : l[i]? = some o) (hl : isLoad o.op = true) (hs : s ≤ cnt l l.length) (hne : s ≠ cnt l i) (hok : stageOk l m i s = true) : (cntL l i, s) ∈ pairsOf l m := by
 have hil : i < l.length := by
  rcases Nat.lt_or_ge i l.length with h1 | h1
  ·exact h1
  ·simp [List.getElem?_eq_none h1] at hi
 unfold pairsOf
 rw [List.mem_flatMap]
 refine ⟨i, List.mem_range.2 hil, ?_⟩
 simp only [hi, hl, if_true]
 rw [List.mem_map]
 refine ⟨s, ?_, rfl⟩
 rw [List.mem_filter]
 exact ⟨List.mem_range.2 (by omega), by simp [hne, hok]⟩
theorem guard_congr {g : Option (Tmp × Bool)} {t t' : T} (h : ∀ d w, g = some (d, w) → t d = t' d) : wantedA g t = wantedA g t' := by
 cases g with
 | none => rfl
 | some x =>
   obtain ⟨d, w⟩ := x
   simp only [wantedA]
   rw [h d w rfl]
theorem cnt_at {l : List AOper} {s : Nat} : ∀ {n : Nat}, n ≤ l.length → s < cnt l n → ∃ e o, e < n ∧ l[e]? = some o ∧ isE o.op = true ∧ cnt l e = s
 | 0, _, h => by simp [cnt] at h
 | n + 1, hl, h => by
   have hn : l[n]? = some l[n] := List.getElem?_eq_getElem (by omega)
   have hs := cnt_succ hn
   by_cases he : isE l[n].op = true
   ·rw [if_pos he] at hs
    by_cases hc : cnt l n = s
    ·exact ⟨n, _, by omega, hn, he, hc⟩
    ·obtain ⟨e, o, h1, h2⟩ := cnt_at (l := l) (s := s) (n := n) (by omega) (by omega)
     exact ⟨e, o, by omega, h2⟩
   ·rw [if_neg he] at hs
    obtain ⟨e, o, h1, h2⟩ := cnt_at (l := l) (s := s) (n := n) (by omega) (by omega)
    exact ⟨e, o, by omega, h2⟩
theorem cnt_inj {l : List AOper} {e e' : Nat} {o o' : AOper} (h : l[e]? = some o) (h' : l[e']? = some o') (he : isE o.op = true) (he' : isE o'.op = true) (hc : cnt l e = cnt l e') : e = e' := by
 have q1 := cnt_succ h
 have q2 := cnt_succ h'
 rw [if_pos he] at q1
 rw [if_pos he'] at q2
 have l1 : e < l.length := by
  rcases Nat.lt_or_ge e l.length with h1 | h1
  ·exact h1
  ·simp [List.getElem?_eq_none h1] at h
 have l2 : e' < l.length := by
  rcases Nat.lt_or_ge e' l.length with h1 | h1
  ·exact h1
  ·simp [List.getElem?_eq_none h1] at h'
 rcases Nat.lt_trichotomy e e' with h3 | h3 | h3
 ·have := cnt_mono (l := l) (show e + 1 ≤ e' by omega) (by omega)
  omega
 ·exact h3
 ·have := cnt_mono (l := l) (show e' + 1 ≤ e by omega) (by omega)
  omega
structure SRelX (nt : Nat) (X : Nat → Bool) (ι : Inj) (h : Heap) (t : T) (a : Act) (w : World) : Prop where
 rel : Rel ι h w
 tmps : ∀ i, X i = false → VRel ι h.length (t i) (a.tmps.getD i undef)
 defers : a.defers = []
 size : nt ≤ a.tmps.size
def blankT (X : Nat → Bool) (t : T) : T := fun i => if X i then undef else t i
def blankA (X : Nat → Bool) (a : Act) : Act := { a with tmps := a.tmps.mapIdx fun i v => if X i then undef else v }
theorem blankA_get? {X : Nat → Bool} {a : Act} {i : Nat} (hi : X i = false) : (blankA X a).tmps[i]? = a.tmps[i]? := by
 simp only [blankA, Array.getElem?_mapIdx]
 cases a.tmps[i]? with
 | none => rfl
 | some v => simp [hi]
theorem blankA_get {X : Nat → Bool} {a : Act} {i : Nat} : (blankA X a).tmps.getD i undef = if X i then undef else a.tmps.getD i undef := by
 simp only [blankA, Array.getD_eq_getD_getElem?, Array.getElem?_mapIdx]
 cases a.tmps[i]? with
 | none => simp
 | some v => simp
theorem SRelX.blank {X : Nat → Bool} {ι : Inj} {h : Heap} {t : T} {a : Act} {w : World} (hs : SRelX nt X ι h t a w) : SRel nt ι h (blankT X t) (blankA X a) w :=
 ⟨hs.rel, fun i => by
  rw [blankA_get]; unfold blankT
  cases hx : X i with
  | true => simp only [if_true]; exact .undef
  | false => simp only [Bool.false_eq_true, if_false]; exact hs.tmps i hx, hs.defers, by simpa [blankA] using hs.size⟩
theorem put_get {a : Act} {d : Option Tmp} {v : Value} {i : Nat} : (a.put d v).tmps.getD i undef = if d = some i ∧ i < a.tmps.size then v else a.tmps.getD i undef := by
 cases d with
 | none => simp [Act.put]
 | some k =>
   simp only [Act.put, Array.getD_eq_getD_getElem?, Array.getElem?_setIfInBounds]
   by_cases hk : k = i
   ·subst hk
    by_cases hl : k < a.tmps.size
    ·simp [hl]
    ·simp [hl]
   ·simp [hk]
theorem SRelX.unblank {X : Nat → Bool} {ι : Inj} {h : Heap} {t : T} {a : Act} {w : World} {d : Option Tmp} {v v' : Value} (hs : SRel nt ι h (Wb.put (blankT X t) d v) ((blankA X a).put d v') w) (hdf : a.defers = []) : SRelX nt X ι h (Wb.put t d v) (a.put d v') w := by
 refine ⟨hs.rel, fun i hi => ?_, ?_, ?_⟩
 ·have := hs.tmps i
  rw [put_get, blankA_get, hi] at this
  have e1 : (blankA X a).tmps.size = a.tmps.size := by simp [blankA]
  rw [e1] at this
  rw [put_get]
  have e2 : Wb.put (blankT X t) d v i = Wb.put t d v i := by
   cases d with
   | none => simp [Wb.put, blankT, hi]
   | some k => simp only [Wb.put, upd, blankT, hi, Bool.false_eq_true, if_false]
  rw [e2] at this
  simpa using this
 ·cases d <;> simpa [Act.put] using hdf
 ·have := hs.size
  cases d <;> simpa [Act.put, blankA] using this
theorem wp_blank {X : Nat → Bool} {o : Oper} {a : Act} {w : World} {K K' : Act → World → Prop} (hop : execOp (blankA X a).eval o = execOp a.eval o) (hK : ∀ v w', K' ((blankA X a).put o.dst v) w' → K (a.put o.dst v) w')
 (hdf : ∀ d v w', ¬ K' ({ (blankA X a) with defers := d :: (blankA X a).defers }.put o.dst v) w') (h : o.wp P (blankA X a) w K' (fun _ _ _ => False)) : o.wp P a w K Q := by
 unfold Oper.wp at *
 rw [hop] at h
 generalize (execOp a.eval o).run P w = r at *
 cases r with
 | ok n w' =>
   cases n <;> simp only [Oper.upon] at h ⊢ <;>
    first
     | exact hK _ _ h
     | exact (hdf _ _ _ h).elim
     | exact Calls.mono h (fun e w'' he => by cases e <;> first | exact hK _ _ he | exact he.elim | (obtain ⟨_, _, hf⟩ := he; exact hf.elim))
     | exact Rows.mono h (fun _ _ he => hK _ _ he)
     | exact h.elim
 | halt x w' => cases x <;> simp only [Oper.upon] at h ⊢ <;> exact h.elim
theorem oper_soundX {X : Nat → Bool} {ι : Inj} {h h' : Heap} {t t' : T} {a : Act} {w : World} {o : Oper} {ao : AOper} (hcalls : CallsOk P nm call) (hs : SRelX nt X ι h t a w) (hc : compileOper P nm nt ops o = some ao) (hx : stepA call ao t h = some (t', h'))
 (hr : ∀ d, d ∈ readsOf ao → X d = false) (hl : ∀ d, looksO o d = true → X d = false) (hd : ∀ d, ao.dst = some d → X d = false) :
 (Region.wanted o (yielded ops a.tmps) = true → o.wp P a w (fun a' w' => ∃ ι' v', a' = a.put o.dst v' ∧ SRelX nt X ι' h' t' a' w' ∧ Step ι h w ι' h' w') Q) ∧
 (Region.wanted o (yielded ops a.tmps) = false → SRelX nt X ι h' t' (a.put o.dst undef) w ∧ h' = h) := by
 have hc0 := hc
 unfold compileOper at hc0
 split at hc0
 case h_2 => cases hc0
 rename_i op g hop hg
 have hao : ao.dst = o.dst ∧ ao.guard = g := by
  split at hc0
  ·rename_i hdd; injection hc0 with hc0; subst hc0; exact ⟨hdd.symm, rfl⟩
  ·rename_i k hdd
   split at hc0
   ·injection hc0 with hc0; subst hc0; exact ⟨hdd.symm, rfl⟩
   ·cases hc0
 have hwant : wantedA ao.guard (blankT X t) = wantedA ao.guard t := guard_congr fun d wv hgd => by
  have : X d = false := hr d (by simp [readsOf, hgd])
  simp [blankT, this]
 have hev : ∀ K, evalA call ao.op (blankT X t) K = evalA call ao.op t K := fun K => by
  refine evalA_congr fun x hxm => ev_congr fun i hi => ?_
  subst hi
  have : X i = false := hr i (by simp only [readsOf, List.mem_append]; exact .inl (mem_tmpsOf hxm))
  simp [blankT, this]
 obtain ⟨v, hv, hcase⟩ := step_inv hx
 have hx2 : stepA call ao (blankT X t) h = some (Wb.put (blankT X t) ao.dst v, h') := by
  unfold stepA
  rw [hwant, hev]
  rcases hcase with ⟨q1, q2⟩ | ⟨q1, q2, q3⟩
  ·rw [if_pos q1, q2]
  ·rw [q1, q2, q3]; rfl
 have hwr : Region.wanted o (yielded ops (blankA X a).tmps) = Region.wanted o (yielded ops a.tmps) := by
  obtain ⟨dd, oop, ty, pos, af, gd⟩ := o
  cases gd with
  | none => rfl
  | some x =>
    obtain ⟨j, want⟩ := x
    simp only [guardOf] at hg
    split at hg
    ·rename_i d' hd'
     injection hg with hg
     have hx0 : X d' = false := hr d' (by simp [readsOf, hao.2, ← hg])
     simp only [Region.wanted, yielded, hd', Option.bind_some, blankA_get? hx0]
    ·cases hg
 have hop2 : execOp (blankA X a).eval o = execOp a.eval o := by
  refine execOp_congr o ?_ ?_
  ·intro cs b hsel
   rw [hsel] at hop
   simp [compileOpN, compileOp, noCall] at hop
  ·intro x hxm
   cases x with
   | tmp i =>
     have : X i = false := hl i (by
      unfold looksO
      rw [List.any_eq_true]
      exact ⟨.tmp i, by simpa using hxm, by simp⟩)
     have := blankA_get (X := X) (a := a) (i := i)
     simp only [Act.eval]
     rw [this]
     simp [*]
   | const v => rfl
   | global g => rfl
   | func f => rfl
 obtain ⟨s1, s2⟩ := oper_sound (P := P) (nm := nm) (nt := nt) (Q := fun _ _ _ => False) hcalls hs.blank hc hx2
 rw [hwr] at s1 s2
 subst hv
 constructor
 ·intro hw
  refine wp_blank hop2 ?_ ?_ (s1 hw)
  ·rintro v' w' ⟨ι', g1, g2⟩
   rw [← hao.1] at g1 ⊢
   exact ⟨ι', v', rfl, SRelX.unblank g1 hs.defers, g2⟩
  ·rintro dd v' w' ⟨ι', g1, g2⟩
   have := g1.defers
   cases hod : o.dst <;> rw [hod] at this <;> simp [Act.put] at this
 ·intro hw
  obtain ⟨g1, g2⟩ := s2 hw
  rw [← hao.1] at g1 ⊢
  exact ⟨SRelX.unblank g1 hs.defers, g2⟩
theorem alOk_spec {os : List Oper} {l : List AOper} {m : List Nat} (h : alOk os l m = true) {e : Nat} {a : AOper} {oe : Oper} (he : l[e]? = some a) (hoe : os[e]? = some oe) (ha : isAl a = true) :
 (∃ ty, oe.op = .alloc ty) ∧ ∀ j aj oj, l[j]? = some aj → os[j]? = some oj → (anc m j e = true → ∀ k o, k < e → l[k]? = some o → isE o.op = true → anc m j k = true) ∧
  (j ≠ e → ∀ d, a.dst = some d → looksO oj d = true → if e < j then anc m j e = true else anc m e j = true) := by
 have hlen : ∀ {k : Nat} {x : AOper}, l[k]? = some x → k < l.length := fun {k x} hk => by
  rcases Nat.lt_or_ge k l.length with h1 | h1
  ·exact h1
  ·simp [List.getElem?_eq_none h1] at hk
 have h1 := List.all_eq_true.1 h e (List.mem_range.2 (hlen he))
 simp only [he, hoe, ha, Bool.not_true, Bool.false_or, Bool.and_eq_true] at h1
 obtain ⟨h2, h3⟩ := h1
 refine ⟨?_, fun j aj oj hj hoj => ?_⟩
 ·split at h2
  ·exact ⟨_, by assumption⟩
  ·cases h2
 ·have h4 := List.all_eq_true.1 h3 j (List.mem_range.2 (hlen hj))
  simp only [hj, hoj, Bool.and_eq_true] at h4
  obtain ⟨h5, h6⟩ := h4
  constructor
  ·intro hanc k o hk hlk hEk
   rw [hanc] at h5
   simp only [Bool.not_true, Bool.false_or] at h5
   have := List.all_eq_true.1 h5 k (List.mem_range.2 hk)
   simpa [hlk, hEk] using this
  ·intro hne d hd hlook
   have hb : (j == e) = false := by simpa using hne
   simp only [hb, Bool.false_or, hd, hlook, Bool.not_true] at h6
   split
   ·rename_i hlt; simpa [hlt] using h6
   ·rename_i hlt; simpa [hlt] using h6
theorem drawn_sound {l : List AOper} {pairs : List (Nat × Nat)} {id : Nat} {t t' : T} {h h' : Heap} {ι0 : Inj} {a0 : Act} {w0 : World} (hm : P.follows .mixedOrders = true) (hcomp : compileOps P nm nt ops ops.toList = some l) (hdo : drawOk ops.toList l = some pairs)
 (hcalls : CallsOk P nm call) (hs0 : SRel nt ι0 h t a0 w0) (hx : execDrawn call l pairs t h = some (t', h'))
 (hQ : ∀ ι' a' w', SRel nt ι' h' t' a' w' → Step ι0 h w0 ι' h' w' → Q .normal a' w') : (Code.region id ops true).wp P Q a0 w0 := by
 obtain ⟨hll, hget⟩ := compileOps_get hcomp
 have hn : l.length = ops.size := by rw [hll]; simp
 unfold drawOk at hdo
 split at hdo
 case isFalse => cases hdo
 rename_i hcond
 rw [Bool.and_eq_true, Bool.and_eq_true] at hcond
 obtain ⟨⟨hback, hdeps⟩, halok⟩ := hcond
 injection hdo with hdo
 subst hdo
 unfold execDrawn at hx
 split at hx
 case h_2 => cases hx
 rename_i t1 h1 G L hlog
 split at hx
 case isFalse => cases hx
 rename_i hcheck
 injection hx with hx
 injection hx with e1 e2
 subst e1 e2
 obtain ⟨ts, hs, vs, tr, hts, hhs⟩ := trace_of hlog
 let m := ancs ops.toList []
 have hlen : ∀ {k : Nat} {x : AOper}, l[k]? = some x → k < l.length := fun {k x} hk => by
  rcases Nat.lt_or_ge k l.length with h1 | h1
  ·exact h1
  ·simp [List.getElem?_eq_none h1] at hk
 have hoper : ∀ {k : Nat} {x : AOper}, l[k]? = some x → ∃ o, ops[k]? = some o ∧ compileOper P nm nt ops o = some x := fun {k x} hk => by
  have hkl := hlen hk
  have ho : ops[k]? = some ops[k] := Array.getElem?_eq_getElem (by omega)
  obtain ⟨ao, q1, q2⟩ := hget k ops[k] (by simpa using ho)
  rw [hk] at q1
  injection q1 with q1
  subst q1
  exact ⟨_, ho, q2⟩
 let al : Nat → Bool := fun k => match l[k]? with | some o => isAl o | none => false
 have al_of : ∀ {k : Nat} {x : AOper}, l[k]? = some x → al k = isAl x := fun {k x} hk => by simp only [al, hk]
 have al_inv : ∀ {k : Nat}, al k = true → ∃ x, l[k]? = some x ∧ isAl x = true := fun {k} hk => by
  simp only [al] at hk
  split at hk
  ·exact ⟨_, by assumption, hk⟩
  ·cases hk
 let Ea : Array Bool → Nat → Nat → Bool := fun listed s e => listed.getD e false && (al e && decide (s ≤ cnt l e))
 let D : Array Bool → Nat → Nat → Bool := fun listed s k => listed.getD k false && !Ea listed s k
 let X : Array Bool → Nat → Nat → Bool := fun listed s i => (List.range l.length).any fun e => Ea listed s e && (match l[e]? with | some o => o.dst == some i | none => false)
 have Ea_inv : ∀ {listed : Array Bool} {s e : Nat}, Ea listed s e = true → listed.getD e false = true ∧ ∃ x, l[e]? = some x ∧ isAl x = true ∧ s ≤ cnt l e := by
  intro listed s e hE
  simp only [Ea, Bool.and_eq_true, decide_eq_true_eq] at hE
  obtain ⟨x, q1, q2⟩ := al_inv hE.2.1
  exact ⟨hE.1, x, q1, q2, hE.2.2⟩
 have X_inv : ∀ {listed : Array Bool} {s i : Nat}, X listed s i = true → ∃ e x, Ea listed s e = true ∧ l[e]? = some x ∧ x.dst = some i := by
  intro listed s i hX
  simp only [X, List.any_eq_true, Bool.and_eq_true] at hX
  obtain ⟨e, _, hE, hd⟩ := hX
  split at hd
  ·rename_i x hx; exact ⟨e, x, hE, hx, by simpa using hd⟩
  ·cases hd
 have X_of : ∀ {listed : Array Bool} {s i e : Nat} {x : AOper}, Ea listed s e = true → l[e]? = some x → x.dst = some i → X listed s i = true := by
  intro listed s i e x hE hx hd
  simp only [X, List.any_eq_true, Bool.and_eq_true]
  exact ⟨e, List.mem_range.2 (hlen hx), hE, by simp [hx, hd]⟩
 have X_congr : ∀ {listed listed' : Array Bool} {s s' : Nat}, (∀ e, Ea listed' s' e = Ea listed s e) → X listed' s' = X listed s := by
  intro listed listed' s s' hE
  funext i
  simp only [X, hE]
 let Inv0 : Array Bool → Nat → Inj → Heap → (Nat → Nat) → Act → World → Prop := fun listed s ι H Bf a w =>
  s ≤ cnt l l.length ∧ (h :: G)[s]? = some H ∧
  (∀ e o, l[e]? = some o → isE o.op = true → (cnt l e < s → listed.getD e false = true) ∧ (listed.getD e false = true → cnt l e < s ∨ isAl o = true)) ∧
  SRelX nt (X listed s) ι H (tD l vs t (D listed s) l.length) a w ∧ Step ι0 h w0 ι H w ∧
  (∀ e o zs d, l[e]? = some o → Ea listed s e = true → o.op = .alloc zs → o.dst = some d → a.tmps.getD d undef = .pointer (some ⟨Bf e, 0, none⟩) ∧ Fresh w0.heap.size ι H w (Bf e) zs) ∧
  (∀ e e', Ea listed s e = true → Ea listed s e' = true → e ≠ e' → Bf e ≠ Bf e') ∧
  (∀ k e, listed.getD k false = true → al e = true → anc m k e = true → cnt l e < s)
 let Norm : Array Bool → Nat → Prop := fun listed s => ∀ e o, l[e]? = some o → isE o.op = true → cnt l e = s → listed.getD e false = false
 let Inv : Array Bool → Act → World → Prop := fun listed a w => listed.size = ops.size ∧
  (∀ j o, ops[j]? = some o → listed.getD j false = true → ∀ e ∈ o.after.toList, Region.binds .any e = true → listed.getD e.on false = true) ∧
  ∃ s ι H Bf, Inv0 listed s ι H Bf a w ∧ Norm listed s
 have norm : ∀ (k : Nat) (listed : Array Bool) (s : Nat) (ι : Inj) (H : Heap) (Bf : Nat → Nat) (a : Act) (w : World), cnt l l.length - s ≤ k → Inv0 listed s ι H Bf a w → ∃ s' ι' H', Inv0 listed s' ι' H' Bf a w ∧ Norm listed s' := by
  intro k
  induction k with
  | zero =>
    intro listed s ι H Bf a w hk hinv
    refine ⟨s, ι, H, hinv, fun e o he hE hce => ?_⟩
    exfalso
    have h1 := cnt_succ he
    rw [if_pos hE] at h1
    have := cnt_mono (l := l) (show e + 1 ≤ l.length by have := hlen he; omega) (Nat.le_refl _)
    omega
  | succ k ih =>
    intro listed s ι H Bf a w hk hinv
    by_cases hN : Norm listed s
    ·exact ⟨s, ι, H, hinv, hN⟩
    ·have : ∃ e o, l[e]? = some o ∧ isE o.op = true ∧ cnt l e = s ∧ listed.getD e false = true := by
      apply Classical.byContradiction
      intro hcon
      refine hN fun e o he hE hce => ?_
      rcases Bool.eq_false_or_eq_true (listed.getD e false) with hT | hF
      ·exact absurd ⟨e, o, he, hE, hce, hT⟩ hcon
      ·exact hF
     obtain ⟨e, o, he, hE, hce, hL⟩ := this
     obtain ⟨i1, i2, i3, i4, i5, i6, i7, i8⟩ := hinv
     have hal : isAl o = true := by
      rcases (i3 e o he hE).2 hL with h1 | h1
      ·omega
      ·exact h1
     have hEa : Ea listed s e = true := by
      simp only [Ea, hL, al_of he, hal, hce, Nat.le_refl, decide_true, Bool.and_self]
     obtain ⟨zs, d, ho, hg, hd⟩ := isAl_inv hal
     obtain ⟨htn, hcase⟩ := tr.step e o he
     have hHe : H = hs e := by
      have := tr.stages e (by have := hlen he; omega)
      rw [hce, i2] at this
      injection this
     have hcs := cnt_succ he
     rw [if_pos hE] at hcs
     have hval : vs e = .pointer (some ⟨(hs e).length, 0, none⟩) ∧ hs (e + 1) = newBlk (hs e) zs := by
      rcases hcase with ⟨q1, q2⟩ | ⟨q1, q2⟩
      ·rw [ho] at q2
       simp only [evalA, aOp] at q2
       injection q2 with q2
       injection q2 with q3 q4
       exact ⟨q3.symm, q4.symm⟩
      ·rw [hg] at q1
       simp [wantedA] at q1
     obtain ⟨hp, hf⟩ := i6 e o zs d he hEa ho hd
     obtain ⟨n, hst⟩ := step_ghost i5 hf
     have hEa' : ∀ e2, Ea listed (s + 1) e2 = (Ea listed s e2 && !(e2 == e)) := by
      intro e2
      rcases Bool.eq_false_or_eq_true (listed.getD e2 false && al e2) with h2 | h2
      ·rw [Bool.and_eq_true] at h2
       obtain ⟨x2, g1, g2⟩ := al_inv h2.2
       simp only [Ea, h2.1, h2.2, Bool.true_and]
       by_cases hee : e2 = e
       ·subst hee
        simp [hce]
       ·have hne : cnt l e2 ≠ s := fun hc => hee (cnt_inj g1 he (isAl_E g2) hE (by omega))
        have hb : (e2 == e) = false := by simpa using hee
        rw [hb]
        by_cases hle : s ≤ cnt l e2
        ·simp [hle, show s + 1 ≤ cnt l e2 by omega]
        ·simp [hle, show ¬ s + 1 ≤ cnt l e2 by omega]
      ·have : ∀ s', Ea listed s' e2 = false := by
        intro s'
        simp only [Ea, ← Bool.and_assoc, h2, Bool.false_and]
       rw [this, this, Bool.false_and]
     have hEa2 : ∀ {e2}, Ea listed (s + 1) e2 = true → Ea listed s e2 = true ∧ e2 ≠ e := by
      intro e2 h2
      rw [hEa', Bool.and_eq_true] at h2
      exact ⟨h2.1, by simpa using h2.2⟩
     have hD' : ∀ k, D listed (s + 1) k = (D listed s k || k == e) := by
      intro k2
      simp only [D, hEa']
      by_cases hke : k2 = e
      ·subst hke
       simp only [hL, beq_self_eq_true, Bool.not_true, Bool.and_false, Bool.not_false, Bool.and_true, Bool.or_true]
      ·have hb : (k2 == e) = false := by simpa using hke
       simp only [hb, Bool.not_false, Bool.and_true, Bool.or_false]
     have hDe : D listed s e = false := by simp only [D, hEa, Bool.not_true, Bool.and_false]
     have htd : tD l vs t (D listed (s + 1)) l.length = put (tD l vs t (D listed s) l.length) o.dst (vs e) := by
      rcases tD_insert (vs := vs) (t := t) (D := D listed s) (D' := D listed (s + 1)) he hD' l.length (hlen he) (fun k2 x hjk hk2 hkx hdk i hi hxi => by
       have hlk : listed.getD k2 false = true := by simp only [D, Bool.and_eq_true] at hdk; exact hdk.1
       have := i8 k2 e hlk (by rw [al_of he, hal]) (depsOk_spec hdeps hjk he hkx (write_dep hi hxi))
       omega) with hh | hh
      ·exact hh
      ·rw [hDe] at hh; cases hh
     have hcm := cnt_mono (l := l) (show e + 1 ≤ l.length by have := hlen he; omega) (Nat.le_refl _)
     refine ih listed (s + 1) (ι.set H.length ⟨Bf e, 0, n⟩) (newBlk H zs) Bf a w (by omega) ⟨by omega, ?_, ?_, ?_, hst, ?_, ?_, ?_⟩
     ·have := tr.stages (e + 1) (by have := hlen he; omega)
      rw [hcs, hce] at this
      rw [this, hval.2, hHe]
     ·intro e2 o2 he2 hE2
      refine ⟨fun hlt => ?_, fun hl2 => ?_⟩
      ·by_cases hc2 : cnt l e2 < s
       ·exact (i3 e2 o2 he2 hE2).1 hc2
       ·rw [cnt_inj he2 he hE2 hE (by omega)]; exact hL
      ·rcases (i3 e2 o2 he2 hE2).2 hl2 with h2 | h2
       ·exact .inl (by omega)
       ·exact .inr h2
     ·refine ⟨hst.rel, fun i hi => ?_, i4.defers, i4.size⟩
      rw [htd, hd]
      by_cases hid : i = d
      ·subst hid
       rw [put_same, hval.1, hp, ← hHe]
       have := VRel.ptr (ι := ι.set H.length ⟨Bf e, 0, n⟩) (n := (newBlk H zs).length) H.length 0 (by rw [length_new]; omega)
       rwa [Inj.set_same] at this
      ·rw [put_other (fun hc => hid (by injection hc with hc; exact hc.symm))]
       refine (i4.tmps i ?_).mono (fun b hb => Inj.set_other (by omega)) (by rw [length_new]; omega)
       rcases Bool.eq_false_or_eq_true (X listed s i) with h2 | h2
       ·obtain ⟨e2, x2, g1, g2, g3⟩ := X_inv h2
        have hne : e2 ≠ e := by
         rintro rfl
         rw [he] at g2
         injection g2 with g2
         subst g2
         rw [hd] at g3
         injection g3 with g3
         exact hid g3.symm
        rw [X_of (by rw [hEa', g1]; simpa using hne) g2 g3] at hi
        cases hi
       ·exact h2
     ·intro e2 o2 zs2 d2 he2 hE2 ho2 hd2
      obtain ⟨q1, q2⟩ := hEa2 hE2
      obtain ⟨p1, p2⟩ := i6 e2 o2 zs2 d2 he2 q1 ho2 hd2
      refine ⟨p1, p2.ge, p2.lt, p2.obj, fun b ro cs hb hne => ?_⟩
      rw [get_new] at hb
      split at hb
      ·rename_i hlt
       rw [Inj.set_other (by omega)]
       exact p2.out b ro cs hb hne
      ·split at hb
       ·rename_i heq
        subst heq
        rw [Inj.set_same]
        exact i7 e e2 hEa q1 (Ne.symm q2)
       ·cases hb
     ·intro e2 e3 hE2 hE3 hne
      exact i7 e2 e3 (hEa2 hE2).1 (hEa2 hE3).1 hne
     ·intro k2 e2 hl2 ha2 hanc
      have := i8 k2 e2 hl2 ha2 hanc
      omega
 have closed : ∀ (listed : Array Bool), (∀ j o, ops[j]? = some o → listed.getD j false = true → ∀ e ∈ o.after.toList, Region.binds .any e = true → listed.getD e.on false = true) →
  (∀ e i, listed.getD e false = true → anc m e i = true → listed.getD i false = true) ∧
  (∀ k o, ops[k]? = some o → (∀ e ∈ o.after.toList, Region.binds .any e = true → listed.getD e.on false = true) → ∀ i, anc m k i = true → listed.getD i false = true) := by
  intro listed hcl
  obtain ⟨q1, q2⟩ := ancs_closed (fun k => listed.getD k false) ops.toList [] (fun e i _ hi => by simp at hi) (fun k o ho hd => hcl k o (by simpa using ho) (by simpa using hd))
  exact ⟨fun e i he hi => q1 e i he hi, fun k o ho he i hi => q2 k o (by simpa using ho) he i (by simpa [anc] using hi)⟩
 have done : ∀ listed a w, Inv listed a w → (∀ j, j < ops.size → listed.getD j false = true) → Q .normal a w := by
  rintro listed a w ⟨hsz, hcl, s, ι, H, Bf, ⟨i1, i2, i3, i4, i5, i6, i7, i8⟩, hN⟩ hall
  have hseq : s = cnt l l.length := by
   rcases Nat.lt_or_ge s (cnt l l.length) with hlt | hge
   ·exfalso
    obtain ⟨e, o, g1, g2, g3, g4⟩ := cnt_at (l := l) (Nat.le_refl _) hlt
    have := hN e o g2 g3 g4
    rw [hall e (by omega)] at this
    cases this
   ·omega
  have hnoE : ∀ e, Ea listed s e = false := by
   intro e
   rcases Bool.eq_false_or_eq_true (Ea listed s e) with hT | hF
   ·obtain ⟨_, x, q1, q2, q3⟩ := Ea_inv hT
    have q4 := cnt_succ q1
    rw [if_pos (isAl_E q2)] at q4
    have := cnt_mono (l := l) (show e + 1 ≤ l.length by have := hlen q1; omega) (Nat.le_refl _)
    omega
   ·exact hF
  have hHe : H = hs l.length := by
   have := tr.stages l.length (Nat.le_refl _)
   rw [← hseq, i2] at this
   injection this
  have htt : tD l vs t (D listed s) l.length = t1 := by
   rw [← hts]
   have h2 := tD_prefix tr l.length l.length (Nat.le_refl _)
   rw [Nat.min_self] at h2
   rw [← h2]
   funext i
   refine tD_agree _ fun k o hk _ _ => ?_
   simp only [D, hnoE, hall k (by omega), decide_eq_true hk, Bool.not_false, Bool.and_self]
  have hX : ∀ i, X listed s i = false := by
   intro i
   rcases Bool.eq_false_or_eq_true (X listed s i) with hT | hF
   ·obtain ⟨e, x, g1, _⟩ := X_inv hT
    rw [hnoE] at g1; cases g1
   ·exact hF
  rw [htt, hHe, hhs] at i4
  rw [hHe, hhs] at i5
  exact hQ ι a w ⟨i4.rel, fun i => i4.tmps i (hX i), i4.defers, i4.size⟩ i5
 have main : ∀ fuel listed a w, Inv listed a w → (List.range ops.size).countP (fun i => !listed.getD i false) ≤ fuel → wpAny P .any ops Q fuel listed a w := by
  intro fuel
  induction fuel with
  | zero =>
    intro listed a w hinv hc
    have hall : ∀ j, j < ops.size → listed.getD j false = true := by
     intro j hj
     have := List.countP_eq_zero.1 (Nat.le_zero.1 hc) j (List.mem_range.2 hj)
     simpa using this
    refine ⟨?_, done listed a w hinv hall⟩
    apply List.eq_nil_iff_forall_not_mem.2
    intro j hj
    rw [mem_ready] at hj
    obtain ⟨h0, o, ho, _⟩ := hj
    have hjs : j < ops.size := (Array.getElem?_eq_some_iff.1 ho).1
    have := hall j hjs
    have hjl : j < listed.size := by rw [hinv.1]; exact hjs
    simp [hjl] at h0 this
    rw [h0] at this
    cases this
  | succ fuel ih =>
    intro listed a w hinv hc
    constructor
    ·intro hnil
     refine done listed a w hinv fun j => ?_
     induction j using Nat.strongRecOn with
     | _ j ihj =>
       intro hj
       rcases Bool.eq_false_or_eq_true (listed.getD j false) with ht | hf
       ·exact ht
       ·exfalso
        have ho : ops[j]? = some ops[j] := Array.getElem?_eq_getElem hj
        have hmem : j ∈ Region.ready .any ops listed := by
         rw [mem_ready]
         refine ⟨?_, _, ho, fun e he hb => ?_⟩
         ·have hjl : j < listed.size := by rw [hinv.1]; exact hj
          simp [hjl] at hf ⊢
          exact hf
         ·have hlt := edgesBack_spec hback (j := j) (o := ops[j]) (by simp [hj]) e (by simpa using he) hb
          exact ihj e.on hlt (by omega)
        rw [hnil] at hmem
        cases hmem
    ·intro j hj
     rw [mem_ready] at hj
     obtain ⟨h0, o, ho, hpre⟩ := hj
     have hjs : j < ops.size := (Array.getElem?_eq_some_iff.1 ho).1
     obtain ⟨hsz, hcl, s, ι, H, Bf, ⟨i1, i2, i3, i4, i5, i6, i7, i8⟩, hN⟩ := hinv
     have hjl : j < listed.size := by rw [hsz]; exact hjs
     have hjf : listed.getD j false = false := by
      simp [hjl] at h0 ⊢
      exact h0
     obtain ⟨ao, hao, hco⟩ := hget j o (by simpa using ho)
     obtain ⟨c1, c2⟩ := closed listed hcl
     have hancs : ∀ i, anc m j i = true → listed.getD i false = true := c2 j o ho (fun e he hb => hpre e (by simpa using he) hb)
     have hlater : ∀ e, anc m e j = true → listed.getD e false = false := fun e he => by
      rcases Bool.eq_false_or_eq_true (listed.getD e false) with ht | hf
      ·have := c1 e j ht he
       rw [hjf] at this; cases this
      ·exact hf
     have claimA : ∀ e x, l[e]? = some x → isE x.op = true → anc m j e = true → cnt l e < s := by
      intro e x hex hxe hanc
      rcases (i3 e x hex hxe).2 (hancs e hanc) with h1 | h1
      ·exact h1
      ·rcases Nat.lt_or_ge (cnt l e) s with h2 | h2
       ·exact h2
       ·exfalso
        obtain ⟨oe, hoe, _⟩ := hoper hex
        have hcs := cnt_succ hex
        rw [if_pos hxe] at hcs
        obtain ⟨e3, x3, g1, g2, g3, g4⟩ := cnt_at (l := l) (s := s) (n := e + 1) (by have := hlen hex; omega) (by omega)
        have hl3 : listed.getD e3 false = true := by
         rcases Nat.lt_or_ge e3 e with h3 | h3
         ·exact hancs e3 (((alOk_spec halok hex (by simpa using hoe) h1).2 j ao o hao (by simpa using ho)).1 hanc e3 x3 h3 g2 g3)
         ·have : e3 = e := by omega
          rw [this]; exact hancs e hanc
        rw [hN e3 x3 g2 g3 g4] at hl3
        cases hl3
     have notEarly : ∀ e, Ea listed s e = true → anc m j e = true → False := by
      intro e hE hanc
      obtain ⟨_, x, q1, q2, q3⟩ := Ea_inv hE
      have := claimA e x q1 (isAl_E q2) hanc
      omega
     have hEj : Ea listed s j = false := by simp only [Ea, hjf, Bool.false_and]
     have hreads : ∀ d, d ∈ readsOf ao → tD l vs t (D listed s) l.length d = ts j d := by
      intro d hd
      have h2 := tD_prefix tr j l.length (Nat.le_refl _)
      rw [show min l.length j = j by omega] at h2
      rw [← h2]
      refine tD_agree _ fun k x hk hkx hkd => ?_
      rcases Nat.lt_trichotomy k j with hlt | heq | hgt
      ·rw [decide_eq_true hlt]
       have hanc := depsOk_spec hdeps hlt hkx hao (read_dep hkd hd)
       simp only [D, hancs k hanc, Bool.true_and]
       rcases Bool.eq_false_or_eq_true (Ea listed s k) with hT | hF
       ·exact (notEarly k hT hanc).elim
       ·rw [hF]; rfl
      ·subst heq
       simp only [D, hjf, Bool.false_and]; simp
      ·rw [show decide (k < j) = false by simp; omega]
       have := hlater k (depsOk_spec hdeps hgt hao hkx (read_dep2 hkd hd))
       simp only [D, this, Bool.false_and]
     have hXr : ∀ d, d ∈ readsOf ao → X listed s d = false := by
      intro d hd
      rcases Bool.eq_false_or_eq_true (X listed s d) with hT | hF
      ·exfalso
       obtain ⟨e, x, g1, g2, g3⟩ := X_inv hT
       rcases Nat.lt_trichotomy e j with hlt | heq | hgt
       ·exact notEarly e g1 (depsOk_spec hdeps hlt g2 hao (read_dep g3 hd))
       ·subst heq; rw [hEj] at g1; cases g1
       ·have h3 := hlater e (depsOk_spec hdeps hgt hao g2 (read_dep2 g3 hd))
        rw [(Ea_inv g1).1] at h3; cases h3
      ·exact hF
     have hXd : ∀ d, ao.dst = some d → X listed s d = false := by
      intro d hd
      rcases Bool.eq_false_or_eq_true (X listed s d) with hT | hF
      ·exfalso
       obtain ⟨e, x, g1, g2, g3⟩ := X_inv hT
       rcases Nat.lt_trichotomy e j with hlt | heq | hgt
       ·exact notEarly e g1 (depsOk_spec hdeps hlt g2 hao (write_dep g3 hd))
       ·subst heq; rw [hEj] at g1; cases g1
       ·have h3 := hlater e (depsOk_spec hdeps hgt hao g2 (write_dep hd g3))
        rw [(Ea_inv g1).1] at h3; cases h3
      ·exact hF
     have hXl : ∀ d, looksO o d = true → X listed s d = false := by
      intro d hd
      rcases Bool.eq_false_or_eq_true (X listed s d) with hT | hF
      ·exfalso
       obtain ⟨e, x, g1, g2, g3⟩ := X_inv hT
       obtain ⟨hle, x', q1, q2, q3⟩ := Ea_inv g1
       rw [g2] at q1
       injection q1 with q1
       subst q1
       have hne : j ≠ e := by rintro rfl; rw [hEj] at g1; cases g1
       obtain ⟨oe, hoe, _⟩ := hoper g2
       have := ((alOk_spec halok g2 (by simpa using hoe) q2).2 j ao o hao (by simpa using ho)).2 hne d g3 hd
       split at this
       ·exact notEarly e g1 this
       ·have h3 := hlater e this
        rw [hle] at h3; cases h3
      ·exact hF
     have hguard : wantedA ao.guard (tD l vs t (D listed s) l.length) = wantedA ao.guard (ts j) := by
      refine guard_congr fun d wv hg => hreads d ?_
      simp [readsOf, hg]
     have hev : ∀ K, evalA call ao.op (tD l vs t (D listed s) l.length) K = evalA call ao.op (ts j) K := fun K => by
      refine evalA_congr fun x hxm => ev_congr fun i hi => hreads i ?_
      subst hi
      simp only [readsOf, List.mem_append]
      exact .inl (mem_tmpsOf hxm)
     have hDj : D listed s j = false := by simp only [D, hjf, Bool.false_and]
     have hL' : ∀ k, (listed.setIfInBounds j true).getD k false = (listed.getD k false || k == j) := by
      intro k
      by_cases hk : k = j
      ·subst hk
       simp [hjl]
      ·have : (k == j) = false := by simpa using hk
       rw [this, Bool.or_false]
       exact getD_set_ne false (Ne.symm hk)
     have hcl' : ∀ k ok, ops[k]? = some ok → (listed.setIfInBounds j true).getD k false = true → ∀ e ∈ ok.after.toList, Region.binds .any e = true → (listed.setIfInBounds j true).getD e.on false = true := by
      intro k ok hok hk e he hb
      rw [hL'] at hk ⊢
      by_cases hkj : k = j
      ·subst hkj
       rw [ho] at hok
       injection hok with hok
       subst hok
       rw [hpre e (by simpa using he) hb, Bool.true_or]
      ·have : (k == j) = false := by simpa using hkj
       rw [this, Bool.or_false] at hk
       rw [hcl k ok hok hk e he hb, Bool.true_or]
     have hA' : ∀ s', s ≤ s' → ∀ k e, (listed.setIfInBounds j true).getD k false = true → al e = true → anc m k e = true → cnt l e < s' := by
      intro s' hss k e hk ha hanc
      rw [hL'] at hk
      by_cases hkj : k = j
      ·subst hkj
       obtain ⟨x, q1, q2⟩ := al_inv ha
       have := claimA e x q1 (isAl_E q2) hanc
       omega
      ·have : (k == j) = false := by simpa using hkj
       rw [this, Bool.or_false] at hk
       have := i8 k e hk ha hanc
       omega
     have hcount : (List.range ops.size).countP (fun i => !(listed.setIfInBounds j true).getD i false) ≤ fuel := by
      have := countP_lt (p := fun i => !listed.getD i false) (q := fun i => !(listed.setIfInBounds j true).getD i false) (j := j) (fun i hi => by
       rw [hL'] at hi
       simp only [Bool.not_or, Bool.and_eq_true] at hi
       exact hi.1) (l := List.range ops.size) (List.mem_range.2 hjs) (by simp only [hjf]; rfl) (by rw [hL']; simp)
      omega
     have fin : ∀ s' ι' H' Bf' a' w', Inv0 (listed.setIfInBounds j true) s' ι' H' Bf' a' w' → Inv (listed.setIfInBounds j true) a' w' := by
      intro s' ι' H' Bf' a' w' hi
      obtain ⟨s2, ι2, H2, q1, q2⟩ := norm _ _ s' ι' H' Bf' a' w' (Nat.le_refl _) hi
      exact ⟨by simp [hsz], hcl', s2, ι2, H2, Bf', q1, q2⟩
     have hod : ao.dst = o.dst ∧ (∀ k, o.dst = some k → k < nt) := by
      unfold compileOper at hco
      split at hco
      ·split at hco
       ·rename_i hdd; injection hco with hco; subst hco; exact ⟨hdd.symm, fun k hk => by rw [hdd] at hk; cases hk⟩
       ·rename_i k hdd
        split at hco
        ·rename_i hlt; injection hco with hco; subst hco; exact ⟨hdd.symm, fun k' hk => by rw [hdd] at hk; injection hk with hk; rw [← hk]; exact hlt⟩
        ·cases hco
      ·cases hco
     by_cases hearly : isAl ao = true ∧ s < cnt l j
     ·
      obtain ⟨hal, hsj⟩ := hearly
      obtain ⟨zs, d, hop, hg, hd⟩ := isAl_inv hal
      obtain ⟨⟨ty, hoty⟩, _⟩ := alOk_spec halok hao (by simpa using ho) hal
      have hcn : compileOpN P nm o.op = some (.alloc zs) ∧ o.guard = none := by
       unfold compileOper at hco
       split at hco
       ·rename_i op g q1 q2
        have : op = ao.op ∧ g = ao.guard := by
         split at hco
         ·injection hco with hco; subst hco; exact ⟨rfl, rfl⟩
         ·split at hco
          ·injection hco with hco; subst hco; exact ⟨rfl, rfl⟩
          ·cases hco
        rw [q1, this.1, hop]
        refine ⟨rfl, ?_⟩
        rw [this.2, hg] at q2
        cases hgo : o.guard with
        | none => rfl
        | some y =>
          rw [hgo] at q2
          obtain ⟨y1, y2⟩ := y
          simp only [guardOf] at q2
          split at q2 <;> cases q2
       ·cases hco
      obtain ⟨c, hrun, hcr, hone⟩ := alloc_run (ρ := a.eval) (w := w) hoty hcn.1
      have hwant : Region.wanted o (yielded ops a.tmps) = true := by
       unfold Region.wanted
       rw [hcn.2]
      have hod' : o.dst = some d := by rw [← hod.1]; exact hd
      have hdn := hod.2 d hod'
      have hEa' : ∀ e, Ea (listed.setIfInBounds j true) s e = (Ea listed s e || e == j) := by
       intro e
       simp only [Ea, hL']
       by_cases hej : e = j
       ·subst hej
        simp [al_of hao, hal]
        omega
       ·have : (e == j) = false := by simpa using hej
        rw [this, Bool.or_false, Bool.or_false]
      have hEaI : ∀ {e}, Ea (listed.setIfInBounds j true) s e = true → e ≠ j → Ea listed s e = true := by
       intro e he hej
       rw [hEa'] at he
       have : (e == j) = false := by simpa using hej
       rwa [this, Bool.or_false] at he
      have hD' : D (listed.setIfInBounds j true) s = D listed s := by
       funext k
       simp only [D, hEa', hL']
       by_cases hkj : k = j
       ·subst hkj
        simp [hjf]
       ·have : (k == j) = false := by simpa using hkj
        rw [this, Bool.or_false, Bool.or_false]
      have hst1 := step_laid i4.rel (.cells c ty (0, 0))
      unfold wpOp
      rw [ho]
      simp only
      rw [if_pos hwant]
      left
      unfold Oper.wp
      rw [hrun]
      simp only [Oper.upon]
      refine ih _ _ _ (fin s ι H (fun e => if e = j then w.heap.size else Bf e) _ _ ⟨i1, i2, ?_, ?_, i5.trans hst1, ?_, ?_, hA' s (Nat.le_refl _)⟩) hcount
      ·intro e x hex hxe
       rw [hL']
       by_cases hej : e = j
       ·subst hej
        rw [hao] at hex
        injection hex with hex
        subst hex
        exact ⟨fun _ => by simp, fun _ => .inr hal⟩
       ·have hb : (e == j) = false := by simpa using hej
        rw [hb, Bool.or_false]
        exact i3 e x hex hxe
      ·rw [hD']
       refine ⟨hst1.rel, fun i hi => ?_, ?_, ?_⟩
       ·have hid : i ≠ d := by
         rintro rfl
         rw [X_of (by rw [hEa']; simp) hao hd] at hi
         cases hi
        have hXi : X listed s i = false := by
         rcases Bool.eq_false_or_eq_true (X listed s i) with hT | hF
         ·obtain ⟨e, x, g1, g2, g3⟩ := X_inv hT
          rw [X_of (by rw [hEa', g1, Bool.true_or]) g2 g3] at hi
          cases hi
         ·exact hF
        rw [put_get, if_neg (by rw [hod']; rintro ⟨q1, _⟩; injection q1 with q1; exact hid q1.symm)]
        exact i4.tmps i hXi
       ·have := i4.defers
        rw [hod']; simpa [Act.put] using this
       ·have := i4.size
        rw [hod']; simpa [Act.put] using this
      ·intro e x zs2 d2 hex hE ho2 hd2
       by_cases hej : e = j
       ·subst hej
        rw [hao] at hex
        injection hex with hex
        subst hex
        rw [hd] at hd2
        injection hd2 with hd2
        subst hd2
        rw [hop] at ho2
        injection ho2 with ho2
        subst ho2
        simp only [if_true]
        refine ⟨?_, i5.size, by simp, ⟨c, ty, ?_, hcr, hone⟩, fun b ro cs hb hne => ?_⟩
        ·rw [put_get, if_pos ⟨hod', Nat.lt_of_lt_of_le hdn i4.size⟩]
        ·show (w.heap.push _)[w.heap.size]? = _
         simp
        ·have := i4.rel.inside b ro cs hb hne
         omega
       ·have hE0 := hEaI hE hej
        obtain ⟨p1, p2⟩ := i6 e x zs2 d2 hex hE0 ho2 hd2
        have hXd2 := X_of hE0 hex hd2
        have hdd : d2 ≠ d := by
         rintro rfl
         rw [hXd d2 hd] at hXd2
         cases hXd2
        simp only [if_neg hej]
        refine ⟨?_, p2.step hst1⟩
        rw [put_get, if_neg (by rw [hod']; rintro ⟨q1, _⟩; injection q1 with q1; exact hdd q1.symm)]
        exact p1
      ·intro e e' hE hE' hne
       by_cases hej : e = j
       ·have hej' : e' ≠ j := fun hh => hne (by rw [hej, hh])
        obtain ⟨_, x', q1, q2, q3⟩ := Ea_inv (hEaI hE' hej')
        obtain ⟨zs2, d2, g1, g2, g3⟩ := isAl_inv q2
        have := (i6 e' x' zs2 d2 q1 (hEaI hE' hej') g1 g3).2.lt
        simp only [hej, if_true, if_neg hej']
        omega
       ·by_cases hej' : e' = j
        ·obtain ⟨_, x', q1, q2, q3⟩ := Ea_inv (hEaI hE hej)
         obtain ⟨zs2, d2, g1, g2, g3⟩ := isAl_inv q2
         have := (i6 e x' zs2 d2 q1 (hEaI hE hej) g1 g3).2.lt
         simp only [hej', if_true, if_neg hej]
         omega
        ·simp only [if_neg hej, if_neg hej']
         exact i7 e e' (hEaI hE hej) (hEaI hE' hej') hne
     ·
      have hEs : isE ao.op = true → s = cnt l j := by
       intro he
       have hle : s ≤ cnt l j := by
        rcases Nat.lt_or_ge (cnt l j) s with h2 | h2
        ·have := (i3 j ao hao he).1 h2
         rw [hjf] at this; cases this
        ·exact h2
       rcases Bool.eq_false_or_eq_true (isAl ao) with hal | hal
       ·have : ¬ s < cnt l j := fun h2 => hearly ⟨hal, h2⟩
        omega
       ·rcases Nat.eq_zero_or_pos (cnt l j) with hz | hz
        ·omega
        ·obtain ⟨e, x, g1, g2, g3, g4⟩ := cnt_prev (l := l) (show j ≤ l.length by omega) hz
         have := claimA e x g2 g3 (depsOk_spec hdeps g1 g2 hao (eff_dep g3 he hal))
         omega
      have hRs : isR ao.op = true → isSA ao.op = false → s = cnt l j := by
       intro hrr hsa
       have hlow : cnt l j ≤ s := by
        rcases Nat.eq_zero_or_pos (cnt l j) with hz | hz
        ·omega
        ·obtain ⟨e, x, g1, g2, g3, g4⟩ := cnt_prev (l := l) (show j ≤ l.length by omega) hz
         have := claimA e x g2 g3 (depsOk_spec hdeps g1 g2 hao (effr_dep g3 hrr (by rw [hsa, Bool.and_false])))
         omega
       rcases Nat.lt_or_ge (cnt l j) s with hlt | hge
       ·exfalso
        obtain ⟨e, x, g1, g2, g3, g4, g5⟩ := cnt_next (l := l) (j := j) (n := l.length) (by omega) (Nat.le_refl _) (by omega)
        have hle := (i3 e x g3 g4).1 (by omega)
        rcases Nat.eq_or_lt_of_le g1 with heq | hgt
        ·subst heq; rw [hjf] at hle; cases hle
        ·have := hlater e (depsOk_spec hdeps hgt hao g3 (reff_dep hrr g4 (by rw [hsa, Bool.false_and])))
         rw [this] at hle; cases hle
       ·omega
      have hstage : s = cnt l j → H = hs j := fun he => by
       have := tr.stages j (by omega)
       rw [← he, i2] at this
       injection this
      obtain ⟨htn, hcase⟩ := tr.step j ao hao
      have hstep : ∃ H', stepA call ao (tD l vs t (D listed s) l.length) H = some (put (tD l vs t (D listed s) l.length) ao.dst (vs j), H') ∧
       ((isE ao.op = true ∧ s = cnt l j ∧ H' = hs (j + 1)) ∨ (isE ao.op = false ∧ H' = H)) := by
       rcases hcase with ⟨hwt, hval⟩ | ⟨hwf, hvu, hhe⟩
       ·rcases Bool.eq_false_or_eq_true (isE ao.op) with hee | hee
        ·have hsj : s = cnt l j := hEs hee
         refine ⟨hs (j + 1), ?_, .inl ⟨hee, hsj, rfl⟩⟩
         unfold stepA
         rw [hguard, if_pos hwt, hev, hstage hsj, hval]
        ·have hval2 : evalA call ao.op (ts j) H = some (vs j, H) := by
          have hsame := heap_same hee hval
          rcases Bool.eq_false_or_eq_true (isR ao.op) with hrr | hrr
          ·rcases Bool.eq_false_or_eq_true (isSA ao.op) with hsa | hsa
           ·obtain ⟨n0, sz0, i0, lo0, hi0, hop⟩ := sa_inv hsa
            have hi0r : i0 ∈ readsOf ao := by simp [readsOf, hop, aopOperands, tmpsOf]
            have hpt := i4.tmps i0 (hXr i0 hi0r)
            rw [hreads i0 hi0r] at hpt
            rw [hop] at hval ⊢
            have hval : aOp (.sliceArr n0 sz0 (.tmp i0) lo0 hi0) (ts j) (hs j) = some (vs j, hs (j + 1)) := hval
            obtain ⟨b0, o0, L0, hb0, _, hbj⟩ := sa_val hval
            show aOp (.sliceArr n0 sz0 (.tmp i0) lo0 hi0) (ts j) H = some (vs j, H)
            refine sa_move hval fun b o hb => ?_
            rw [hb0] at hb
            injection hb with hb
            injection hb with hb
            injection hb with hb
            subst hb
            have hbH : b0 < H.length := by
             rw [hb0] at hpt
             revert hpt
             generalize a.tmps.getD i0 undef = z
             intro hpt
             cases hpt with
             | ptr _ _ h => exact h
            have hjl2 := hlen hao
            rcases Nat.lt_trichotomy s (cnt l j) with hlt | heq | hgt
            ·obtain ⟨k', g1, g2⟩ := cnt_ex (l := l) (s := s) (n := j) (by omega) (by omega)
             have hH : H = hs k' := by
              have := tr.stages k' (by omega)
              rw [g2, i2] at this
              injection this
             have := (trace_keeps tr (k := k') (k' := j) (by omega) (by omega) fun e x q1 q2 q3 q4 => by
              rcases Bool.eq_false_or_eq_true (keepsB x.op) with hk | hk
              ·exact hk
              ·exfalso
               have hd := effr_dep q4 hrr (by rw [hk, Bool.false_and])
               have h5 := claimA e x q3 q4 (depsOk_spec hdeps q2 q3 hao hd)
               have h6 := cnt_le (l := l) q1 (by omega)
               omega).2 b0 (by rw [← hH]; exact hbH)
             rw [hH, this]
            ·rw [hstage heq]
            ·obtain ⟨k', g1, g2⟩ := cnt_ex (l := l) (s := s) (n := l.length) (Nat.le_refl _) i1
             have hH : H = hs k' := by
              have := tr.stages k' (by omega)
              rw [g2, i2] at this
              injection this
             have hjk : j ≤ k' := by
              rcases Nat.lt_or_ge k' j with h5 | h5
              ·have := cnt_le (l := l) (show k' ≤ j by omega) (by omega)
               omega
              ·exact h5
             have := (trace_keeps tr (k := j) (k' := k') hjk (by omega) fun e x q1 q2 q3 q4 => by
              rcases Bool.eq_false_or_eq_true (keepsB x.op) with hk | hk
              ·exact hk
              ·exfalso
               have hcs := cnt_succ q3
               rw [if_pos q4] at hcs
               have h6 := cnt_le (l := l) (show e + 1 ≤ k' by omega) (by omega)
               have h7 := (i3 e x q3 q4).1 (by omega)
               have hne : j ≠ e := by rintro rfl; rw [hjf] at h7; cases h7
               have hd := reff_dep hrr q4 (by rw [hk, Bool.and_false])
               have h8 := hlater e (depsOk_spec hdeps (by omega) hao q3 hd)
               rw [h8] at h7; cases h7).2 b0 hbj
             rw [hH, this]
           ·have hsj : s = cnt l j := hRs hrr hsa
            rw [hstage hsj, hval, hsame]
          ·rcases Bool.eq_false_or_eq_true (isLoad ao.op) with hld | hld
           ·by_cases hsj : s = cnt l j
            ·rw [hstage hsj, hval, hsame]
            ·have hpair : (cntL l j, s) ∈ pairsOf l m := by
              refine pairs_spec hao hld i1 hsj ?_
              unfold stageOk
              rw [List.all_eq_true]
              intro e he
              cases hle : l[e]? with
              | none => rfl
              | some x =>
                simp only
                rcases Bool.eq_false_or_eq_true (isE x.op) with hxe | hxe
                ·simp only [hxe, Bool.not_true, Bool.false_or, Bool.and_eq_true]
                 constructor
                 ·rcases Bool.eq_false_or_eq_true (anc m j e) with ha | ha
                  ·have := claimA e x hle hxe ha
                   simp [this]
                  ·simp [ha]
                 ·rcases Bool.eq_false_or_eq_true (anc m e j) with ha | ha
                  ·have hf := hlater e ha
                   have : ¬ cnt l e < s := fun hlt => by
                    have := (i3 e x hle hxe).1 hlt
                    rw [hf] at this; cases this
                   simp [show s ≤ cnt l e by omega]
                  ·simp [ha]
                ·simp [hxe]
             have hsat := checkPairs_mem hcheck _ hpair
             obtain ⟨r, hr1, hr2⟩ := tr.loads j ao hao hld
             unfold sameAt at hsat
             simp only [hr1, i2] at hsat
             cases hop : ao.op <;> rw [hop] at hld <;> first | (cases hld; done) | skip
             rename_i n x
             rw [hop] at hval
             simp only [evalA, aOp, Option.map_eq_some_iff] at hval
             obtain ⟨u, hu, hux⟩ := hval
             injection hux with e1 e2
             have hlr : loadRec ao (ts j) (hs j) = [some (n, Ev (ts j) x, u)] := by
              unfold loadRec
              rw [hop]
              simp only [hwt, if_true, hu]
             rw [hlr] at hr2
             injection hr2 with hr2
             rw [hr2] at hsat
             simp only at hsat
             simp only [evalA, aOp, hsat, Option.map_some, e1]
           ·exact (pure_any hee hrr hld hval).2
         refine ⟨H, ?_, .inr ⟨hee, rfl⟩⟩
         unfold stepA
         rw [hguard, if_pos hwt, hev, hval2]
       ·rcases Bool.eq_false_or_eq_true (isE ao.op) with hee | hee
        ·have hsj : s = cnt l j := hEs hee
         refine ⟨hs (j + 1), ?_, .inl ⟨hee, hsj, rfl⟩⟩
         unfold stepA
         rw [hguard, hwf, hvu, hhe, ← hstage hsj]
         rfl
        ·refine ⟨H, ?_, .inr ⟨hee, rfl⟩⟩
         unfold stepA
         rw [hguard, hwf, hvu]
         rfl
      obtain ⟨H', hsa, hkind⟩ := hstep
      obtain ⟨s', hs', hkind2⟩ : ∃ s', s ≤ s' ∧ ((isE ao.op = true ∧ s = cnt l j ∧ s' = s + 1 ∧ H' = hs (j + 1)) ∨ (isE ao.op = false ∧ s' = s ∧ H' = H)) := by
       rcases hkind with ⟨q1, q2, q3⟩ | ⟨q1, q2⟩
       ·exact ⟨s + 1, by omega, .inl ⟨q1, q2, rfl, q3⟩⟩
       ·exact ⟨s, by omega, .inr ⟨q1, rfl, q2⟩⟩
      have hEa' : ∀ e, Ea (listed.setIfInBounds j true) s' e = Ea listed s e := by
       intro e
       by_cases hej : e = j
       ·subst hej
        rw [hEj]
        simp only [Ea, al_of hao]
        rcases hkind2 with ⟨q1, q2, q3, q4⟩ | ⟨q1, q2, q3⟩
        ·have : ¬ s' ≤ cnt l e := by omega
         simp [this]
        ·have : isAl ao = false := by
          rcases Bool.eq_false_or_eq_true (isAl ao) with hT | hF
          ·rw [isAl_E hT] at q1; cases q1
          ·exact hF
         simp [this]
       ·have hb : (e == j) = false := by simpa using hej
        simp only [Ea, hL', hb, Bool.or_false]
        rcases Bool.eq_false_or_eq_true (al e) with ha | ha
        ·obtain ⟨x, g1, g2⟩ := al_inv ha
         congr 2
         rcases hkind2 with ⟨q1, q2, q3, q4⟩ | ⟨q1, q2, q3⟩
         ·have hne : cnt l e ≠ s := fun hc => hej (cnt_inj g1 hao (isAl_E g2) q1 (by omega))
          by_cases hle : s ≤ cnt l e
          ·simp [hle, show s' ≤ cnt l e by omega]
          ·simp [hle, show ¬ s' ≤ cnt l e by omega]
         ·rw [q2]
        ·simp only [ha, Bool.false_and]
      have hX' := X_congr hEa'
      have hD' : ∀ k, D (listed.setIfInBounds j true) s' k = (D listed s k || k == j) := by
       intro k
       simp only [D, hEa', hL']
       by_cases hkj : k = j
       ·subst hkj
        simp only [hEj, beq_self_eq_true, Bool.or_true, Bool.not_false, Bool.and_true]
       ·have : (k == j) = false := by simpa using hkj
        rw [this, Bool.or_false, Bool.or_false]
      have htd : tD l vs t (D (listed.setIfInBounds j true) s') l.length = put (tD l vs t (D listed s) l.length) ao.dst (vs j) := by
       rcases tD_insert (vs := vs) (t := t) (D := D listed s) (D' := D (listed.setIfInBounds j true) s') hao hD' l.length (by omega) (fun k x hjk hk hkx hdk i hi hxi => by
        have := hlater k (depsOk_spec hdeps hjk hao hkx (write_dep hi hxi))
        simp only [D, this, Bool.false_and] at hdk
        cases hdk) with hh | hh
       ·exact hh
       ·rw [hDj] at hh; cases hh
      have hinv' : ∀ ι' v' w', SRelX nt (X listed s) ι' H' (put (tD l vs t (D listed s) l.length) ao.dst (vs j)) (a.put o.dst v') w' → Step ι H w ι' H' w' → Inv (listed.setIfInBounds j true) (a.put o.dst v') w' := by
       intro ι' v' w' hsr' hst'
       refine fin s' ι' H' Bf _ _ ⟨?_, ?_, ?_, by rw [hX', htd]; exact hsr', i5.trans hst', ?_, ?_, hA' s' hs'⟩
       ·rcases hkind2 with ⟨q1, q2, q3, q4⟩ | ⟨q1, q2, q3⟩
        ·have hc1 := cnt_succ hao
         rw [if_pos q1] at hc1
         have := cnt_mono (l := l) (show j + 1 ≤ l.length by omega) (Nat.le_refl _)
         omega
        ·omega
       ·rcases hkind2 with ⟨q1, q2, q3, q4⟩ | ⟨q1, q2, q3⟩
        ·have hc1 := cnt_succ hao
         rw [if_pos q1] at hc1
         have := tr.stages (j + 1) (by omega)
         rw [hc1, ← q2, ← q3] at this
         rw [this, q4]
        ·rw [q2, q3]; exact i2
       ·intro e x hex hxe
        rw [hL']
        by_cases hej : e = j
        ·subst hej
         rw [hao] at hex
         injection hex with hex
         subst hex
         refine ⟨fun _ => by simp, fun _ => .inl ?_⟩
         rcases hkind2 with ⟨q1, q2, q3, q4⟩ | ⟨q1, q2, q3⟩
         ·omega
         ·rw [hxe] at q1; cases q1
        ·have hb : (e == j) = false := by simpa using hej
         rw [hb, Bool.or_false]
         obtain ⟨p1, p2⟩ := i3 e x hex hxe
         refine ⟨fun hlt => p1 ?_, fun hl => (p2 hl).imp (fun hh => by omega) (fun hh => hh)⟩
         rcases hkind2 with ⟨q1, q2, q3, q4⟩ | ⟨q1, q2, q3⟩
         ·have : cnt l e ≠ cnt l j := fun hc => hej (cnt_inj hex hao hxe q1 hc)
          omega
         ·omega
       ·intro e x zs2 d2 hex hE ho2 hd2
        rw [hEa'] at hE
        obtain ⟨p1, p2⟩ := i6 e x zs2 d2 hex hE ho2 hd2
        refine ⟨?_, p2.step hst'⟩
        have hXd2 := X_of hE hex hd2
        rw [put_get, if_neg]
        ·exact p1
        ·rintro ⟨q1, _⟩
         rw [hXd d2 (by rw [hod.1]; exact q1)] at hXd2
         cases hXd2
       ·intro e e' hE hE' hne
        rw [hEa'] at hE hE'
        exact i7 e e' hE hE' hne
      obtain ⟨s1, s2⟩ := oper_soundX (P := P) (nm := nm) (nt := nt) (Q := Q) hcalls i4 hco hsa hXr hXl hXd
      unfold wpOp
      rw [ho]
      simp only
      split
      ·rename_i hw
       left
       refine Oper.wp_mono ?_ (s1 hw)
       rintro a' w' ⟨ι', v', rfl, g1, g2⟩
       exact ih _ _ w' (hinv' ι' v' w' g1 g2) hcount
      ·rename_i hw
       obtain ⟨g1, g2⟩ := s2 (by simpa using hw)
       refine ih _ _ w (hinv' ι _ w g1 ?_) hcount
       rw [g2]
       exact .refl i4.rel
 refine wp_region_any hm (main ops.size _ a0 _ ?_ ?_)
 ·have hz : ∀ k, (Array.replicate ops.size false).getD k false = false := fun k => by rw [Array.getD_eq_getD_getElem?, Array.getElem?_replicate]; split <;> rfl
  have hE0 : ∀ e, Ea (Array.replicate ops.size false) 0 e = false := fun e => by simp only [Ea, hz, Bool.false_and]
  have hX0 : ∀ i, X (Array.replicate ops.size false) 0 i = false := fun i => by
   rcases Bool.eq_false_or_eq_true (X (Array.replicate ops.size false) 0 i) with hT | hF
   ·obtain ⟨e, x, g1, _⟩ := X_inv hT
    rw [hE0] at g1; cases g1
   ·exact hF
  refine ⟨by simp, ?_, 0, ι0, h, fun _ => 0, ⟨Nat.zero_le _, rfl, ?_, ?_, Step.drawn hs0.rel _, ?_, ?_, ?_⟩, fun e o _ _ _ => hz e⟩
  ·intro j o _ hj
   rw [hz] at hj
   cases hj
  ·intro e o _ _
   rw [hz]
   exact ⟨fun hh => by omega, fun hh => by cases hh⟩
  ·have : tD l vs t (D (Array.replicate ops.size false) 0) l.length = t := by
    have h2 := tD_prefix tr 0 l.length (Nat.le_refl _)
    rw [Nat.min_zero, tr.t0] at h2
    refine Eq.trans ?_ h2
    funext i
    refine tD_agree _ fun k o _ _ _ => ?_
    simp only [D, hz, Bool.false_and]
    simp
   rw [this]
   exact ⟨hs0.rel.drawn _, fun i _ => hs0.tmps i, hs0.defers, hs0.size⟩
  ·intro e o zs d _ hE _ _
   rw [hE0] at hE; cases hE
  ·intro e e' hE _ _
   rw [hE0] at hE; cases hE
  ·intro k e hk _ _
   rw [hz] at hk; cases hk
 ·have := List.countP_le_length (p := fun i => !(Array.replicate ops.size false).getD i false) (l := List.range ops.size)
  simpa using this
end
end Go.Wb
namespace Go.Wb
open Go
def LeC (c c' : CallF) : Prop := ∀ f args h r, c f args h = some r → c' f args h = some r
theorem evalA_mono {c c' : CallF} (hc : LeC c c') {o : AOp} {t : T} {h : Heap} {r : Value × Heap} (hx : evalA c o t h = some r) : evalA c' o t h = some r := by
 cases o <;> first | exact hx | exact hc _ _ _ _ hx
theorem stepA_mono {c c' : CallF} (hc : LeC c c') {o : AOper} {t : T} {h : Heap} {r : T × Heap} (hx : stepA c o t h = some r) : stepA c' o t h = some r := by
 unfold stepA at hx ⊢
 split
 ·rename_i hw
  rw [if_pos hw] at hx
  split at hx
  ·rename_i v h1 hev
   rw [evalA_mono hc hev]
   exact hx
  ·cases hx
 ·rename_i hw
  rw [if_neg hw] at hx
  exact hx
theorem execOps_mono {c c' : CallF} (hc : LeC c c') : ∀ {l : List AOper} {t : T} {h : Heap} {r : T × Heap}, execOps c l t h = some r → execOps c' l t h = some r
 | [], _, _, _, hx => hx
 | o :: l, t, h, r, hx => by
   simp only [execOps] at hx ⊢
   split at hx
   ·rename_i t1 h1 hst
    rw [stepA_mono hc hst]
    exact execOps_mono hc hx
   ·cases hx
theorem execLog_mono {c c' : CallF} (hc : LeC c c') : ∀ {l : List AOper} {t : T} {h : Heap} {r : T × Heap × List Heap × List LoadRec}, execLog c l t h = some r → execLog c' l t h = some r
 | [], _, _, _, hx => hx
 | o :: l, t, h, r, hx => by
   simp only [execLog] at hx ⊢
   split at hx
   ·rename_i t1 h1 hst
    rw [stepA_mono hc hst]
    simp only
    split at hx
    ·rename_i t2 h2 G L hr
     rw [execLog_mono hc hr]
     exact hx
    ·cases hx
   ·cases hx
theorem execDrawn_mono {c c' : CallF} (hc : LeC c c') {l : List AOper} {ps : List (Nat × Nat)} {t : T} {h : Heap} {r : T × Heap} (hx : execDrawn c l ps t h = some r) : execDrawn c' l ps t h = some r := by
 unfold execDrawn at hx ⊢
 split at hx
 ·rename_i t1 h1 G L hr
  rw [execLog_mono hc hr]
  exact hx
 ·cases hx
section
variable {E : Env} {n : Nat} {t : T} {h : Heap}
theorem runN_ops {l : List AOper} : runN E (n + 1) (.ops l) t h = (execOps (callN E n) l t h).map fun x => (.normal, x.1, x.2) := by simp only [runN]
theorem runN_drawn {l : List AOper} {ps : List (Nat × Nat)} : runN E (n + 1) (.drawn l ps) t h = (execDrawn (callN E n) l ps t h).map fun x => (.normal, x.1, x.2) := by simp only [runN]
theorem runN_seq {a b : ACode} : runN E (n + 1) (.seq a b) t h = match runN E n a t h with
 | some (.normal, t', h') => runN E n b t' h'
 | r => r := by simp only [runN] <;> rfl
theorem runN_cond {c : Operand} {x y : ACode} : runN E (n + 1) (.cond c x y) t h = match Ev t c with
 | .bool true => runN E n x t h
 | .bool false => runN E n y t h
 | _ => none := by simp only [runN] <;> rfl
theorem runN_block {id : Nat} {b : ACode} : runN E (n + 1) (.block id b) t h = match runN E n b t h with
 | some (.exit i, t', h') => if i = id then some (.normal, t', h') else some (.exit i, t', h')
 | r => r := by simp only [runN] <;> rfl
theorem runN_loop {b : ACode} : runN E (n + 1) (.loop b) t h = match runN E n b t h with
 | some (.normal, t', h') => runN E n (.loop b) t' h'
 | r => r := by simp only [runN] <;> rfl
theorem runN_exit {id : Nat} : runN E (n + 1) (.exit id) t h = some (.exit id, t, h) := by simp only [runN]
theorem runN_ret : runN E (n + 1) .ret t h = some (.ret, t, h) := by simp only [runN]
theorem runN_skip : runN E (n + 1) .skip t h = some (.normal, t, h) := by simp only [runN]
end
theorem fuel_mono (E : Env) : ∀ n, LeC (callN E n) (callN E (n + 1)) ∧ ∀ c t h r, runN E n c t h = some r → runN E (n + 1) c t h = some r := by
 intro n
 induction n with
 | zero => exact ⟨fun f args h r hx => (by simp only [callN] at hx; cases hx), fun c t h r hx => (by simp only [runN] at hx; cases hx)⟩
 | succ n ih =>
   obtain ⟨ihc, ihr⟩ := ih
   constructor
   ·intro f args h r hx
    rw [callN] at hx ⊢
    split at hx
    ·cases hx
    ·exact hx
    ·split at hx
     ·split at hx
      ·exact ihc _ _ _ _ hx
      ·cases hx
     ·cases hx
    ·rename_i rs body hb
     split at hx
     ·rename_i t1 h1 hr
      rw [ihr _ _ _ _ hr]
      exact hx
     ·rename_i t1 h1 hr
      rw [ihr _ _ _ _ hr]
      exact hx
     ·cases hx
   ·intro c t h r hx
    cases c with
    | skip => rw [runN_skip] at hx ⊢; exact hx
    | ops l =>
      rw [runN_ops, Option.map_eq_some_iff] at hx ⊢
      obtain ⟨y, hy, hx⟩ := hx
      exact ⟨y, execOps_mono ihc hy, hx⟩
    | drawn l ps =>
      rw [runN_drawn, Option.map_eq_some_iff] at hx ⊢
      obtain ⟨y, hy, hx⟩ := hx
      exact ⟨y, execDrawn_mono ihc hy, hx⟩
    | seq a b =>
      rw [runN_seq] at hx ⊢
      split at hx
      ·rename_i t1 h1 hr
       rw [ihr _ _ _ _ hr]
       exact ihr _ _ _ _ hx
      ·rename_i hne
       have := ihr _ _ _ _ hx
       rw [this]
       split
       ·rename_i t1 h1 he
        exact (hne t1 h1 (by rw [hx]; exact he)).elim
       ·rfl
    | cond cnd x y =>
      rw [runN_cond] at hx ⊢
      split at hx
      ·rename_i hb
       exact ihr _ _ _ _ hx
      ·rename_i hb
       exact ihr _ _ _ _ hx
      ·cases hx
    | block id b =>
      rw [runN_block] at hx ⊢
      split at hx
      ·rename_i i t1 h1 hr
       rw [ihr _ _ _ _ hr]
       exact hx
      ·rename_i hne
       have := ihr _ _ _ _ hx
       rw [this]
       split
       ·rename_i i t1 h1 he
        exact (hne i t1 h1 (by rw [hx]; exact he)).elim
       ·rfl
    | loop b =>
      rw [runN_loop] at hx ⊢
      split at hx
      ·rename_i t1 h1 hr
       rw [ihr _ _ _ _ hr]
       exact ihr _ _ _ _ hx
      ·rename_i hne
       have := ihr _ _ _ _ hx
       rw [this]
       split
       ·rename_i t1 h1 he
        exact (hne t1 h1 (by rw [hx]; exact he)).elim
       ·rfl
    | exit id => rw [runN_exit] at hx ⊢; exact hx
    | ret => rw [runN_ret] at hx ⊢; exact hx
theorem runN_le {E : Env} {n m : Nat} (hle : n ≤ m) {c : ACode} {t : T} {h : Heap} {r : AExit × T × Heap} (hx : runN E n c t h = some r) : runN E m c t h = some r := by
 induction hle with
 | refl => exact hx
 | step _ ih => exact (fuel_mono E _).2 _ _ _ _ ih
theorem callN_le {E : Env} {n m : Nat} (hle : n ≤ m) {f : String} {args : List Value} {h : Heap} {r : Value × Heap} (hx : callN E n f args h = some r) : callN E m f args h = some r := by
 induction hle with
 | refl => exact hx
 | step _ ih => exact (fuel_mono E _).1 _ _ _ _ ih
theorem callN_leC {E : Env} {n m : Nat} (hle : n ≤ m) : LeC (callN E n) (callN E m) := fun _ _ _ _ hx => callN_le hle hx
end Go.Wb

/- What a law is handed, as the abstract machine has it: the shape of a type, and that whatever can be read is of it. -/
import Derived.Test.YtihcipgcknjkbaaWbLimit
import Derived.OpenShut
import Derived.SizedLaws
namespace Go.Wb
open Go

inductive Ty where
  | int (k : IntKind)
  | bool
  | str
  | arr (n : Nat) (e : Ty)
  | st (fs : List Ty)
  | sl (size bytes : Nat) (e : Ty)

/-- The types of a struct's fields, one behind the other. -/
def fieldsTy (P : Program) (rec : TypeId → Option Ty) : Nat → List Field → Option (List Ty)
  | _, [] => some []
  | off, f :: fs =>
    if f.offset = off then
      match rec f.type, fieldsTy P rec (off + P.cellsOf f.type) fs with
      | some ty, some l => some (ty :: l)
      | _, _ => none
    else none

def fieldsEnd (P : Program) : Nat → List Field → Nat
  | off, [] => off
  | off, f :: fs => fieldsEnd P (off + P.cellsOf f.type) fs

def tyOf (P : Program) : Nat → TypeId → Option Ty
  | 0, _ => none
  | d + 1, t =>
    match P.underlying t with
    | some .bool => some .bool
    | some (.int k) => some (.int k)
    | some .string => some .str
    | some (.struct fs) => if fieldsEnd P 0 fs.toList = P.cellsOf t then (fieldsTy P (tyOf P d) 0 fs.toList).map .st else none
    | some (.array n e) => if P.cellsOf t = n * P.cellsOf e then (tyOf P d e).map (.arr n) else none
    | some (.slice e) => if 1 ≤ P.cellsOf e then (tyOf P d e).map (.sl (P.cellsOf e) (P.bytesOf e)) else none
    | _ => none

def reach : Nat := reachBytes

mutual
/-- How many values and letters a reading holds. -/
def bulkW {H : Type} : DataW H → Nat
  | .lit (.string bytes) => bytes.length + 1
  | .lit _ => 1
  | .nil => 1
  | .ptr d => bulkW d + 1
  | .slice elems spare => bulkWs elems + bulkWs spare + 1
  | .agg parts => bulkWs parts + 1
  | .iface _ d => bulkW d + 1
  | .map entries => bulkWe entries + 1
  | .held _ => 1
def bulkWs {H : Type} : List (DataW H) → Nat
  | [] => 0
  | d :: r => bulkW d + bulkWs r
def bulkWe {H : Type} : List (Lit × DataW H) → Nat
  | [] => 0
  | x :: r => bulkWx x + bulkWe r
def bulkWx {H : Type} : Lit × DataW H → Nat
  | (.string bytes, d) => bytes.length + bulkW d + 1
  | (_, d) => bulkW d + 1
end

theorem bulk_pos {H : Type} (d : DataW H) : 1 ≤ bulkW d := by
  cases d with
  | lit l => cases l <;> simp [bulkW]
  | _ => simp [bulkW]

theorem bulk_len {H : Type} : ∀ (l : List (DataW H)), l.length ≤ bulkWs l
  | [] => by simp [bulkWs]
  | d :: l => by
    have h1 := bulk_pos d
    have h2 := bulk_len l
    simp only [bulkWs, List.length_cons]
    omega

theorem bulk_part {H : Type} {d : DataW H} : ∀ {l : List (DataW H)}, d ∈ l → bulkW d ≤ bulkWs l
  | x :: l, h => by
    simp only [bulkWs]
    cases h with
    | head => omega
    | tail _ h => have := bulk_part h; omega

section
variable (B : Nat)
mutual
/-- Cells of a type, over a heap; what slices hold may not be written; no slice and no string is longer than 'B'. -/
def AOk : Ty → Heap → List Value → Prop
  | .int k, _, cs => ∃ n, cs = [.int k n] ∧ (Lit.int k n).wf = true
  | .bool, _, cs => ∃ b, cs = [.bool b]
  | .str, _, cs => ∃ s : ByteArray, cs = [.string s] ∧ s.size ≤ reach ∧ s.size ≤ B
  | .arr n e, h, cs => ∃ rows : List (List Value), rows.length = n ∧ cs = rows.flatten ∧ ∀ r ∈ rows, AOk e h r
  | .st fs, h, cs => AOks fs h cs
  | .sl s bytes e, h, cs => cs = [.slice none 0 0] ∨ ∃ (b : Nat) (rows : List (List Value)), cs = [.slice (some ⟨b, 0, none⟩) rows.length s] ∧ 1 ≤ s ∧ h[b]? = some (Blk.mem true rows.flatten) ∧ rows.length * bytes ≤ reach ∧ rows.length ≤ B ∧ ∀ r ∈ rows, r.length = s ∧ AOk e h r
def AOks : List Ty → Heap → List Value → Prop
  | [], _, cs => cs = []
  | t :: ts, h, cs => ∃ a b, cs = a ++ b ∧ AOk t h a ∧ AOks ts h b
end
end

theorem get_append {h x : Heap} {b : Nat} {y : Blk} (hb : h[b]? = some y) : (h ++ x)[b]? = some y := by
  rw [List.getElem?_append_left (get_lt hb)]
  exact hb

mutual
theorem AOk.mono {B : Nat} {h x : Heap} : ∀ {ty : Ty} {cs : List Value}, AOk B ty h cs → AOk B ty (h ++ x) cs
  | .int k, _, hh => by simpa only [AOk] using hh
  | .bool, _, hh => by simpa only [AOk] using hh
  | .str, _, hh => by simpa only [AOk] using hh
  | .arr n e, _, hh => by
    simp only [AOk] at hh ⊢
    obtain ⟨rows, h1, h2, h3⟩ := hh
    exact ⟨rows, h1, h2, fun r hr => (h3 r hr).mono⟩
  | .st fs, _, hh => by
    simp only [AOk] at hh ⊢
    exact AOks.mono hh
  | .sl s bytes e, _, hh => by
    simp only [AOk] at hh ⊢
    rcases hh with hh | ⟨b, rows, h1, h2, h3, h4, h4', h5⟩
    · exact .inl hh
    · exact .inr ⟨b, rows, h1, h2, get_append h3, h4, h4', fun r hr => ⟨(h5 r hr).1, (h5 r hr).2.mono⟩⟩
theorem AOks.mono {B : Nat} {h x : Heap} : ∀ {ts : List Ty} {cs : List Value}, AOks B ts h cs → AOks B ts (h ++ x) cs
  | [], _, hh => by simpa only [AOks] using hh
  | t :: ts, _, hh => by
    simp only [AOks] at hh ⊢
    obtain ⟨a, b, h1, h2, h3⟩ := hh
    exact ⟨a, b, h1, h2.mono, AOks.mono h3⟩
end

/-- More blocks that may not be written, and nothing else. -/
structure RO (w : World) (ι : Inj) (h : Heap) (ι' : Inj) (h' : Heap) : Prop where
  ext : ∃ x, h' = h ++ x
  agree : ∀ b, b < h.length → ι' b = ι b
  rel : Rel ι' h' w
  ro : ∀ (b : Nat) (cs : List Value), h'[b]? = some (Blk.mem false cs) → h[b]? = some (Blk.mem false cs)

theorem RO.refl {w : World} {ι : Inj} {h : Heap} (hr : Rel ι h w) : RO w ι h ι h := ⟨⟨[], by simp⟩, fun _ _ => rfl, hr, fun _ _ hb => hb⟩

theorem RO.trans {w : World} {ι ι1 ι2 : Inj} {h h1 h2 : Heap} (a : RO w ι h ι1 h1) (b : RO w ι1 h1 ι2 h2) : RO w ι h ι2 h2 := by
  obtain ⟨x, rfl⟩ := a.ext
  obtain ⟨y, rfl⟩ := b.ext
  refine ⟨⟨x ++ y, by simp⟩, fun c hc => ?_, b.rel, fun c cs hc => a.ro c cs (b.ro c cs hc)⟩
  rw [b.agree c (by simp; omega), a.agree c hc]

theorem RO.len {w : World} {ι ι1 : Inj} {h h1 : Heap} (a : RO w ι h ι1 h1) : h.length ≤ h1.length := by
  obtain ⟨x, rfl⟩ := a.ext
  simp

theorem RO.crel {w : World} {ι ι1 : Inj} {h h1 : Heap} (a : RO w ι h ι1 h1) {l l' : List Value} (hc : CRel ι h.length l l') : CRel ι1 h1.length l l' :=
  hc.mono a.agree a.len

/-- A row of the model's memory, taken in as a block that may not be written. -/
theorem ro_block {w : World} {ι : Inj} {h : Heap} (hr : Rel ι h w) (cs cs' : List Value) (B off size : Nat) (hc : CRel ι h.length cs cs') (h1 : ∀ v ∈ cs', v.oneCell' = true) (hcell : ∀ i, i < cs.length → w.cell? ⟨B, off + i, none⟩ = some (cs'.getD i undef))
    (hs : off + cs.length ≤ size) (hne : ∀ (b : Nat) (cs0 : List Value), h[b]? = some (Blk.mem false cs0) → (ι b).blk ≠ B) : RO w ι h (ι.set h.length ⟨B, off, size⟩) (h ++ [Blk.mem true cs]) := by
  have hold : ∀ b, b < h.length → ι.set h.length ⟨B, off, size⟩ b = ι b := fun b hb => Inj.set_other (by omega)
  have look : ∀ (b : Nat) (ro : Bool) (c : List Value), (h ++ [Blk.mem true cs])[b]? = some (Blk.mem ro c) → (b < h.length ∧ h[b]? = some (Blk.mem ro c)) ∨ (b = h.length ∧ ro = true ∧ c = cs) := by
    intro b ro c hb
    rw [List.getElem?_append] at hb
    split at hb
    · rename_i hlt
      exact .inl ⟨hlt, hb⟩
    · rename_i hge
      rcases Nat.eq_or_lt_of_le (Nat.le_of_not_lt hge) with heq | hgt
      · rw [← heq] at hb
        simp only [Nat.sub_self, List.getElem?_cons_zero] at hb
        injection hb with hb
        injection hb with e1 e2
        exact .inr ⟨heq.symm, e1.symm, e2.symm⟩
      · rw [List.getElem?_eq_none (by simp; omega)] at hb
        cases hb
  refine ⟨⟨_, rfl⟩, hold, ⟨?_, ?_, ?_, ?_, ?_⟩, ?_⟩
  · intro b ro c hb i hi
    rcases look b ro c hb with ⟨hlt, hb'⟩ | ⟨heq, _, hc'⟩
    · obtain ⟨v', q1, q2, q3⟩ := hr.cell b ro c hb' i hi
      refine ⟨v', by rw [hold b hlt]; exact q1, q2.mono (fun x hx => hold x hx) (by simp), q3⟩
    · subst heq hc'
      rw [Inj.set_same]
      refine ⟨_, hcell i hi, (hc.2 i).mono (fun x hx => hold x hx) (by simp), ?_⟩
      have hi' : i < cs'.length := by rw [← hc.1]; exact hi
      rw [getD_eq (List.getElem?_eq_getElem hi')]
      exact h1 _ (List.getElem_mem hi')
  · intro b ro c hb hz
    rcases look b ro c hb with ⟨hlt, hb'⟩ | ⟨heq, hro, hc'⟩
    · rw [hold b hlt]; exact hr.inside b ro c hb' hz
    · subst heq hc' hro
      rw [Inj.set_same]
      have hz : c ≠ [] := by simpa using hz
      have := hcell 0 (List.length_pos_iff.2 hz)
      exact World.block_lt_of_cell? w _ this
  · intro b ro c hb
    rcases look b ro c hb with ⟨hlt, hb'⟩ | ⟨heq, _, hc'⟩
    · rw [hold b hlt]; exact hr.fits b ro c hb'
    · subst heq hc'
      rw [Inj.set_same]
      exact hs
  · intro b c hb
    rcases look b false c hb with ⟨hlt, hb'⟩ | ⟨_, hro, _⟩
    · rw [hold b hlt]; exact hr.own b c hb'
    · cases hro
  · intro b b' c ro c' hb hb' hn hz
    rcases look b false c hb with ⟨hlt, hb1⟩ | ⟨_, hro, _⟩
    · rcases look b' ro c' hb' with ⟨hlt', hb1'⟩ | ⟨heq, _, _⟩
      · rw [hold b hlt, hold b' hlt']
        exact hr.apart b b' c ro c' hb1 hb1' hn hz
      · subst heq
        rw [hold b hlt, Inj.set_same]
        exact hne b c hb1
    · cases hro
  · intro b c hb
    rcases look b false c hb with ⟨_, hb'⟩ | ⟨_, hro, _⟩
    · exact hb'
    · cases hro

/-- What it is to take cells in: some cells of the abstract machine, of a type, that stand to them. -/
def Opens (B : Nat) (w : World) (ty : Ty) (cs : List Value) : Prop :=
  ∀ ι h, Rel ι h w → (∀ (b : Nat) (c : List Value), h[b]? = some (Blk.mem false c) → False) → ∃ (ι' : Inj) (h' : Heap) (acs : List Value), RO w ι h ι' h' ∧ CRel ι' h'.length acs cs ∧ AOk B ty h' acs ∧ ∀ v ∈ cs, v.oneCell' = true

theorem opens_rows {B : Nat} {w : World} {ty : Ty} : ∀ (css : List (List Value)), (∀ cs ∈ css, Opens B w ty cs) → ∀ ι h, Rel ι h w → (∀ (b : Nat) (c : List Value), h[b]? = some (Blk.mem false c) → False) →
    ∃ (ι' : Inj) (h' : Heap) (rows : List (List Value)), RO w ι h ι' h' ∧ rows.map List.length = css.map List.length ∧ CRel ι' h'.length rows.flatten css.flatten ∧ (∀ r ∈ rows, AOk B ty h' r) ∧ ∀ cs ∈ css, ∀ v ∈ cs, v.oneCell' = true
  | [], _, ι, h, hr, _ => ⟨ι, h, [], .refl hr, rfl, ⟨rfl, fun _ => .undef⟩, by simp, by simp⟩
  | cs :: css, hall, ι, h, hr, hno => by
    obtain ⟨ι1, h1, acs, r1, c1, a1, o1⟩ := hall cs (by simp) ι h hr hno
    obtain ⟨ι2, h2, rows, r2, e2, c2, a2, o2⟩ := opens_rows css (fun c hc => hall c (by simp [hc])) ι1 h1 r1.rel (fun b c hb => hno b c (r1.ro b c hb))
    refine ⟨ι2, h2, acs :: rows, r1.trans r2, by simp [e2, c1.1], ?_, ?_, ?_⟩
    · rw [List.flatten_cons, List.flatten_cons]
      exact crel_append (r2.crel c1) c2
    · intro r hr
      obtain ⟨x, hx⟩ := r2.ext
      cases hr with
      | head => rw [hx]; exact a1.mono
      | tail _ hr => exact a2 r hr
    · intro c hc
      cases hc with
      | head => exact o1
      | tail _ hc => exact o2 c hc

theorem take_drop_flatten (n s : Nat) : ∀ (cs : List Value), cs.length = n * s → cs = ((List.range n).map fun i => (cs.drop (i * s)).take s).flatten := by
  induction n with
  | zero => intro cs h; simp at h; simp [h]
  | succ n ih =>
    intro cs h
    rw [List.range_succ_eq_map, List.map_cons, List.flatten_cons]
    have h1 : (cs.drop s).length = n * s := by rw [List.length_drop, h, Nat.succ_mul]; omega
    have h2 := ih (cs.drop s) h1
    conv => lhs; rw [← List.take_append_drop s cs]
    simp only [Nat.zero_mul, List.drop_zero]
    congr 1
    rw [h2]
    congr 1
    rw [List.map_map]
    apply List.map_congr_left
    intro i _
    simp only [Function.comp, List.drop_drop]
    congr 2
    rw [Nat.succ_mul]; omega

section
variable {H : Type} {enc : TypeId × Value → H} {P : Program} {w : World} {spare : Nat → Bool} {held : Bool}

theorem weights_all {e : TypeId} : ∀ {l : List (DataW H)} {d : DataW H}, d ∈ l → ∀ q ∈ d.weights P e, q ∈ DataW.weightsAll P e l
  | d' :: l, d, hm, q, hq => by
    simp only [DataW.weightsAll, List.mem_append]
    cases hm with
    | head => exact .inl hq
    | tail _ hm => exact .inr (weights_all hm q hq)

theorem weights_each : ∀ {ts : List TypeId} {l : List (DataW H)} {j : Nat} {t : TypeId} {d : DataW H}, ts[j]? = some t → l[j]? = some d → ∀ q ∈ d.weights P t, q ∈ DataW.weightsEach P ts l
  | [], _, j, t, d, ht, _, _, _ => by simp at ht
  | _ :: _, [], j, t, d, _, hd, _, _ => by simp at hd
  | t' :: ts, d' :: l, 0, t, d, ht, hd, q, hq => by
    simp only [List.getElem?_cons_zero, Option.some.injEq] at ht hd
    subst ht hd
    simp only [DataW.weightsEach, List.mem_append]
    exact .inl hq
  | t' :: ts, d' :: l, j + 1, t, d, ht, hd, q, hq => by
    simp only [DataW.weightsEach, List.mem_append]
    exact .inr (weights_each (j := j) (by simpa using ht) (by simpa using hd) q hq)

theorem cells?_len {a : Addr} {n : Nat} {l : List Value} (hc : w.cells? 0 a n = some l) : l.length = n ∧ ∀ i, i < n → w.cell? (a.add i) = some (l.getD i undef) := by
  unfold World.cells? at hc
  rw [if_pos (Nat.zero_le _)] at hc
  have hlen := mapM_some_length hc
  refine ⟨by simpa using hlen, fun i hi => ?_⟩
  have := mapM_some_get hc i i (by simp [hi])
  rw [this, List.getD, List.getElem?_eq_getElem (by simp at hlen; omega)]
  rfl

theorem flatten_getD {s : Nat} : ∀ (css : List (List Value)), (∀ c ∈ css, c.length = s) → ∀ j, j < css.length * s → css.flatten.getD j undef = (css.getD (j / s) []).getD (j % s) undef
  | [], _, j, hj => by simp at hj
  | c :: css, hall, j, hj => by
    have hc : c.length = s := hall c (by simp)
    have hs : 0 < s := by
      rcases Nat.eq_zero_or_pos s with h0 | h0
      · subst h0; simp at hj
      · exact h0
    rw [List.flatten_cons]
    rcases Nat.lt_or_ge j s with h1 | h1
    · rw [Nat.div_eq_of_lt h1, Nat.mod_eq_of_lt h1]
      simp only [List.getD_eq_getElem?_getD, List.getElem?_cons_zero, Option.getD_some]
      rw [List.getElem?_append_left (by omega)]
    · have h2 := flatten_getD css (fun c hc => hall c (by simp [hc])) (j - s) (by simp only [List.length_cons, Nat.succ_mul] at hj; omega)
      have e1 : j / s = (j - s) / s + 1 := by rw [Nat.div_eq_sub_div hs h1]
      have e2 : j % s = (j - s) % s := by rw [Nat.mod_eq_sub_mod h1]
      rw [e1, e2]
      simp only [List.getD_eq_getElem?_getD, List.getElem?_cons_succ] at h2 ⊢
      rw [List.getElem?_append_right (by omega), hc, h2]

theorem flatten_len {s : Nat} : ∀ (css : List (List Value)), (∀ c ∈ css, c.length = s) → css.flatten.length = css.length * s
  | [], _ => by simp
  | c :: css, hall => by
    rw [List.flatten_cons, List.length_append, flatten_len css (fun c hc => hall c (by simp [hc])), hall c (by simp), List.length_cons, Nat.succ_mul]
    omega

def OpensS (B : Nat) (w : World) (tys : List Ty) (cs : List Value) : Prop :=
  ∀ ι h, Rel ι h w → (∀ (b : Nat) (c : List Value), h[b]? = some (Blk.mem false c) → False) → ∃ (ι' : Inj) (h' : Heap) (acs : List Value), RO w ι h ι' h' ∧ CRel ι' h'.length acs cs ∧ AOks B tys h' acs ∧ ∀ v ∈ cs, v.oneCell' = true

theorem OpensS.nil {B : Nat} : OpensS B w [] [] := fun ι h hr _ => ⟨ι, h, [], .refl hr, ⟨rfl, fun _ => .undef⟩, by simp only [AOks], by simp⟩

theorem OpensS.cons {B : Nat} {ty : Ty} {tys : List Ty} {a b : List Value} (h1 : Opens B w ty a) (h2 : OpensS B w tys b) : OpensS B w (ty :: tys) (a ++ b) := by
  intro ι h hr hno
  obtain ⟨ι1, g1, acs, r1, c1, a1, o1⟩ := h1 ι h hr hno
  obtain ⟨ι2, g2, bcs, r2, c2, a2, o2⟩ := h2 ι1 g1 r1.rel (fun b c hb => hno b c (r1.ro b c hb))
  refine ⟨ι2, g2, acs ++ bcs, r1.trans r2, crel_append (r2.crel c1) c2, ?_, ?_⟩
  · obtain ⟨x, hx⟩ := r2.ext
    simp only [AOks]
    exact ⟨acs, bcs, rfl, by rw [hx]; exact a1.mono, a2⟩
  · intro v hv
    rcases List.mem_append.1 hv with hv | hv
    · exact o1 v hv
    · exact o2 v hv

theorem fields_open {B n d : Nat} {cs : List Value}
    (ih : ∀ t cs x ty, DataW.trod enc P w 0 (fun _ => true) held n t cs = some x → tyOf P d t = some ty → (∀ q ∈ x.1.weights P t, q ≤ reach) → bulkW x.1 ≤ B → Opens B w ty cs) :
    ∀ (fs : List Field) (xs : List (DataW H × List MemPlace)) (off : Nat) (tys : List Ty), fieldsTy P (tyOf P d) off fs = some tys → cs.length = fieldsEnd P off fs → xs.length = fs.length →
      (∀ (i : Nat) (f : Field), fs[i]? = some f → DataW.trod enc P w 0 (fun _ => true) held n f.type ((cs.drop f.offset).take (P.cellsOf f.type)) = xs[i]?) →
      (∀ q ∈ DataW.weightsEach P (fs.map (·.type)) (xs.map (·.1)), q ≤ reach) → bulkWs (xs.map (·.1)) ≤ B → OpensS B w tys (cs.drop off)
  | [], xs, off, tys, hf, hl, _, _, _, _ => by
    simp only [fieldsTy, Option.some.injEq] at hf
    subst hf
    simp only [fieldsEnd] at hl
    rw [List.drop_eq_nil_of_le (by omega)]
    exact .nil
  | f :: fs, xs, off, tys, hf, hl, hxl, hx, hw, hB => by
    simp only [fieldsTy] at hf
    split at hf
    · rename_i hoff
      split at hf
      · rename_i ty l h1 h2
        injection hf with hf
        subst hf
        cases xs with
        | nil => simp at hxl
        | cons x xs =>
          have h0 := hx 0 f (by simp)
          rw [hoff] at h0
          simp only [List.getElem?_cons_zero] at h0
          simp only [List.map_cons, DataW.weightsEach, List.mem_append] at hw
          simp only [List.map_cons, bulkWs] at hB
          have a := ih f.type _ x ty h0 h1 (fun q hq => hw q (.inl hq)) (by omega)
          have b := fields_open ih fs xs (off + P.cellsOf f.type) l h2 hl (by simpa using hxl) (fun i g hg => by simpa using hx (i + 1) g (by simpa using hg)) (fun q hq => hw q (.inr hq)) (by omega)
          rw [← List.take_append_drop (P.cellsOf f.type) (cs.drop off), List.drop_drop]
          exact OpensS.cons a b
      · cases hf
    · cases hf

theorem opens_one {B : Nat} {v : Value} {ty : Ty} (h1 : v.oneCell' = true) (hv : ∀ ι n, VRel ι n v v) (ha : ∀ h, AOk B ty h [v]) : Opens B w ty [v] := fun ι h hr _ =>
  ⟨ι, h, [v], .refl hr, crel_of rfl (fun i a _ => by have : i = 0 := by simpa using a
                                                     subst this; exact hv _ _), ha h, by simpa using h1⟩

theorem open_cells {B : Nat} : ∀ (d : Nat) (fuel : Nat) (t : TypeId) (cs : List Value) (x : DataW H × List MemPlace) (ty : Ty),
    DataW.trod enc P w 0 (fun _ => true) held fuel t cs = some x → tyOf P d t = some ty → (∀ q ∈ x.1.weights P t, q ≤ reach) → bulkW x.1 ≤ B → Opens B w ty cs
  | 0, _, _, _, _, _, _, hty, _, _ => by simp [tyOf] at hty
  | d + 1, fuel, t, cs, x, ty, hx, hty, hw, hB => by
    simp only [tyOf] at hty
    split at hty
    · rename_i ht
      injection hty with hty
      subst hty
      obtain ⟨b, rfl, rfl⟩ := DataW.trod_bool ht hx
      exact opens_one rfl (fun _ _ => .bool b) (fun h => by simp only [AOk]; exact ⟨b, rfl⟩)
    · rename_i k ht
      injection hty with hty
      subst hty
      obtain ⟨n, rfl, rfl, hwf⟩ := DataW.trod_int ht hx
      exact opens_one rfl (fun _ _ => .int k n) (fun h => by simp only [AOk]; exact ⟨n, rfl, hwf⟩)
    · rename_i ht
      injection hty with hty
      subst hty
      obtain ⟨s, rfl, rfl, hs⟩ := DataW.trod_string ht hx
      refine opens_one rfl (fun _ _ => .string s) (fun h => ?_)
      simp only [AOk]
      have := hw s.data.toList.length (by simp only [DataW.weights, List.mem_singleton])
      simp only [bulkW] at hB
      rw [Array.length_toList] at this hB
      exact ⟨s, rfl, this, by show s.data.size ≤ B; omega⟩
    · rename_i fs ht
      split at hty
      · rename_i hend
        rw [Option.map_eq_some_iff] at hty
        obtain ⟨tys, h1, rfl⟩ := hty
        obtain ⟨xs, n, rfl, rfl, hl, hxl, hall⟩ := DataW.trod_struct ht hx
        have := fields_open (B := B) (cs := cs) (fun t cs x ty a b c e => open_cells d n t cs x ty a b c e) fs.toList xs 0 tys h1 (by rw [hl, hend]) (by simpa using hxl) (fun i f hf => hall i f (by simpa using hf))
          (fun q hq => hw q (by simp only [DataW.weights, ht]; exact hq)) (by simp only [bulkW] at hB; omega)
        intro ι h hr hno
        obtain ⟨ι', h', acs, r, c, a, o⟩ := this ι h hr hno
        exact ⟨ι', h', acs, r, c, by simpa only [AOk] using a, o⟩
      · cases hty
    · rename_i n e ht
      split at hty
      · rename_i hce
        rw [Option.map_eq_some_iff] at hty
        obtain ⟨ty', h1, rfl⟩ := hty
        obtain ⟨xs, m, rfl, rfl, hl, hxl, hall⟩ := DataW.trod_array ht hx
        have hrows : ∀ cs' ∈ ((List.range n).map fun i => (cs.drop (i * P.cellsOf e)).take (P.cellsOf e)), Opens B w ty' cs' := by
          intro cs' hm
          obtain ⟨i, hi, rfl⟩ := List.mem_map.1 hm
          have hi' : i < n := List.mem_range.1 hi
          have h2 := hall i hi'
          rw [List.getElem?_eq_getElem (by omega : i < xs.length)] at h2
          refine open_cells d m e _ _ ty' h2 h1 (fun q hq => hw q ?_) (by
            have := bulk_part (d := xs[i].1) (List.mem_map.2 ⟨xs[i], List.getElem_mem _, rfl⟩ : xs[i].1 ∈ xs.map (·.1))
            simp only [bulkW] at hB
            omega)
          simp only [DataW.weights, ht]
          exact weights_all (d := xs[i].1) (List.mem_map.2 ⟨xs[i], List.getElem_mem _, rfl⟩) q hq
        intro ι h hr hno
        obtain ⟨ι', h', rows, r, e1, c, a, o⟩ := opens_rows _ hrows ι h hr hno
        have hcs := take_drop_flatten n (P.cellsOf e) cs (by rw [hl, hce])
        rw [← hcs] at c
        refine ⟨ι', h', rows.flatten, r, c, ?_, ?_⟩
        · simp only [AOk]
          refine ⟨rows, ?_, rfl, a⟩
          have := congrArg List.length e1
          simpa using this
        · intro v hv
          rw [hcs] at hv
          obtain ⟨l, hl1, hl2⟩ := List.mem_flatten.1 hv
          exact o l hl1 v hl2
      · cases hty
    · rename_i e ht
      split at hty
      · rename_i hs1
        rw [Option.map_eq_some_iff] at hty
        obtain ⟨ty', h1, rfl⟩ := hty
        rcases DataW.trod_slice ht hx with ⟨rfl, rfl⟩ | ⟨a, len, cap, elems, rest, n, rfl, rfl, rfl, _, hlc, _, hel, he, hrest, _⟩
        · exact opens_one rfl (fun _ _ => .nilSlice) (fun h => by simp only [AOk]; exact .inl trivial)
        · obtain ⟨hrl, hrest⟩ := hrest rfl
          generalize hsz : P.cellsOf e = s at *
          let css : List (List Value) := (List.range len).map fun i => (w.cells? 0 (a.add (i * s)) s).getD []
          have hget : ∀ i, i < len → ∃ l y, w.cells? 0 (a.add (i * s)) s = some l ∧ css[i]? = some l ∧ DataW.trod enc P w 0 (fun _ => true) held n e l = some y ∧ elems[i]? = some y := by
            intro i hi
            have h2 := he i hi
            rw [List.getElem?_eq_getElem (by omega : i < elems.length)] at h2
            obtain ⟨l, h3, h4⟩ := Option.bind_eq_some_iff.1 h2
            refine ⟨l, _, h3, ?_, h4, List.getElem?_eq_getElem _⟩
            simp [css, hi, h3]
          have hwx : ∀ q, q = (elems.length + rest.length) * P.bytesOf e ∨ q ∈ DataW.weightsAll P e (elems.map (·.1)) → q ≤ reach := by
            intro q hq
            refine hw q ?_
            simp only [DataW.weights, ht, List.mem_cons, List.mem_append, List.length_map]
            rcases hq with h | h
            · exact .inl h
            · exact .inr (.inl h)
          have hopen : ∀ l ∈ css, Opens B w ty' l := by
            intro l hm
            obtain ⟨i, hi, rfl⟩ := List.mem_map.1 hm
            obtain ⟨l, y, q1, q2, q3, q4⟩ := hget i (List.mem_range.1 hi)
            rw [q1]
            refine open_cells d n e _ y ty' q3 h1 (fun q hq => hwx q (.inr ?_)) (by
              have := bulk_part (List.mem_map.2 ⟨y, List.mem_of_getElem? q4, rfl⟩ : y.1 ∈ elems.map (·.1))
              simp only [bulkW] at hB
              omega)
            exact weights_all (d := y.1) (List.mem_map.2 ⟨y, List.mem_of_getElem? q4, rfl⟩) q hq
          have hlen : ∀ l ∈ css, l.length = s := by
            intro l hm
            obtain ⟨i, hi, rfl⟩ := List.mem_map.1 hm
            obtain ⟨l, y, q1, q2, q3, q4⟩ := hget i (List.mem_range.1 hi)
            rw [q1]
            exact (cells?_len q1).1
          have hcl : css.length = len := by simp [css]
          have hspot : 0 < cap → a = ⟨a.block, a.off, none⟩ := by
            intro hc
            have hz : ∃ l, w.cells? 0 (a.add 0) s = some l := by
              rcases Nat.eq_zero_or_pos len with h0 | h0
              · have h2 := hrest 0 (by omega)
                rw [List.getElem?_eq_getElem (by omega : 0 < rest.length)] at h2
                obtain ⟨l, h3, h4⟩ := Option.bind_eq_some_iff.1 h2
                exact ⟨l, by simpa [h0] using h3⟩
              · obtain ⟨l, y, q1, _⟩ := hget 0 h0
                exact ⟨l, by simpa using q1⟩
            obtain ⟨l, hl⟩ := hz
            have h5 := (cells?_len hl).2 0 (by omega)
            simp only [Addr.add, if_true] at h5
            obtain ⟨ab, ao, asp⟩ := a
            cases asp with
            | none => rfl
            | some z =>
              exfalso
              simp only [World.cell?] at h5
              split at h5 <;> simp at h5
          intro ι h hr hno
          obtain ⟨ι1, g1, rows, r1, e1, c1, a1, o1⟩ := opens_rows css hopen ι h hr hno
          have hrlen : rows.length = len := by
            have := congrArg List.length e1
            simpa [hcl] using this
          have hrs : ∀ r ∈ rows, r.length = s := by
            intro r hm
            have : r.length ∈ rows.map List.length := List.mem_map.2 ⟨r, hm, rfl⟩
            rw [e1] at this
            obtain ⟨l, hl, heq⟩ := List.mem_map.1 this
            rw [← heq, hlen l hl]
          have hfl : rows.flatten.length = len * s := by rw [flatten_len rows hrs, hrlen]
          have hno1 : ∀ (b : Nat) (c : List Value), g1[b]? = some (Blk.mem false c) → False := fun b c hb => hno b c (r1.ro b c hb)
          have hls : len * s ≤ cap * s := Nat.mul_le_mul_right s hlc
          have r2 := ro_block r1.rel rows.flatten css.flatten a.block a.off (a.off + cap * s) c1
            (fun v hv => by obtain ⟨l, hl1, hl2⟩ := List.mem_flatten.1 hv; exact o1 l hl1 v hl2)
            (fun i hi => by
              rw [hfl] at hi
              have hs0 : 0 < s := by omega
              have hi1 : i / s < len := by rw [Nat.div_lt_iff_lt_mul hs0]; exact hi
              obtain ⟨l, y, q1, q2, q3, q4⟩ := hget (i / s) hi1
              have h5 := (cells?_len q1).2 (i % s) (Nat.mod_lt _ hs0)
              have hcap : 0 < cap := by
                rcases Nat.eq_zero_or_pos cap with h0 | h0
                · subst h0; omega
                · exact h0
              rw [hspot hcap, Addr.add_lit, Addr.add_lit] at h5
              rw [flatten_getD css hlen i (by rw [hcl]; exact hi), List.getD_eq_getElem?_getD (l := css), q2, Option.getD_some, ← h5]
              congr 2
              have := Nat.div_add_mod i s
              rw [Nat.mul_comm] at this
              omega)
            (by rw [hfl]; omega) (fun b c hb => (hno1 b c hb).elim)
          refine ⟨_, _, [.slice (some ⟨g1.length, 0, none⟩) len s], r1.trans r2, ?_, ?_, by simp [Value.oneCell']⟩
          · refine crel_of rfl fun i hi _ => ?_
            have : i = 0 := by simpa using hi
            subst this
            refine .slice _ _ _ _ _ _ (by simp) hlc fun hc => ⟨a.off, ?_, fun _ => ?_, ?_⟩
            · rw [Inj.set_same]; exact hspot hc
            · rw [Inj.set_same]; rfl
            · rw [Inj.set_same]; exact Nat.le_refl _
          · simp only [AOk]
            refine .inr ⟨g1.length, rows, by rw [hrlen], hs1, by simp, ?_, ?_, fun r hm => ⟨hrs r hm, (a1 r hm).mono⟩⟩
            have := hwx _ (.inl rfl)
            rw [hel, hrl] at this
            rw [hrlen]
            refine Nat.le_trans ?_ this
            exact Nat.mul_le_mul_right _ (by omega)
            have h1 := bulk_len (elems.map (·.1))
            simp only [bulkW, List.length_map] at hB h1
            omega
      · cases hty
    · cases hty

end
end Go.Wb

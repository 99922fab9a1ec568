import Derived.Test.YtihcipgcknjkbaaWbA2
/- How the value machine stands to the abstract machine with its heap. -/
namespace Go.Wb
open Go

inductive FR (h : Heap) (N : Nat → Prop) : PV → Value → Prop where
  | sc (v : Value) (hv : scalar v = true) : FR h N (.sc v) v
  | agg (cs : List PV) (a : Array Value) (hl : cs.length = a.size) (hc : ∀ i, i < cs.length → FR h N (cs.getD i default) (a.toList.getD i Go.undef)) : FR h N (.agg cs) (.agg a)
  | slNil : FR h N (.sl 0 []) (.slice none 0 0)
  | slE (b o s : Nat) : FR h N (.sl 0 []) (.slice (some ⟨b, o, none⟩) 0 s)
  | sl (n s : Nat) (cs : List PV) (b o : Nat) (ro : Bool) (ca : List Value) (hn : ¬ N b) (hb : h[b]? = some (.mem ro ca)) (hl : n * s = cs.length) (hf : o + cs.length ≤ ca.length)
      (hc : ∀ i, i < cs.length → FR h N (cs.getD i default) (ca.getD (o + i) Go.undef)) : FR h N (.sl n cs) (.slice (some ⟨b, o, none⟩) n s)

def FRs (h : Heap) (N : Nat → Prop) (cs : List PV) (ca : List Value) : Prop := cs.length = ca.length ∧ ∀ i, i < cs.length → FR h N (cs.getD i default) (ca.getD i Go.undef)

/-- What is known of blocks that are not in 'N' stays known. -/
def Keeps (h : Heap) (N : Nat → Prop) (h' : Heap) (N' : Nat → Prop) : Prop := ∀ b ro ca, ¬ N b → h[b]? = some (.mem ro ca) → ¬ N' b ∧ h'[b]? = some (.mem ro ca)

theorem FR.keep {h h' : Heap} {N N' : Nat → Prop} {p : PV} {a : Value} (hf : FR h N p a) (hk : Keeps h N h' N') : FR h' N' p a := by
  induction hf with
  | sc v hv => exact .sc v hv
  | agg cs a hl _ ih => exact .agg cs a hl ih
  | slNil => exact .slNil
  | slE b o s => exact .slE b o s
  | sl n s cs b o ro ca hn hb hl hf _ ih =>
    obtain ⟨h1, h2⟩ := hk b ro ca hn hb
    exact .sl n s cs b o ro ca h1 h2 hl hf ih

theorem FRs.keep {h h' : Heap} {N N' : Nat → Prop} {cs : List PV} {ca : List Value} (hf : FRs h N cs ca) (hk : Keeps h N h' N') : FRs h' N' cs ca := ⟨hf.1, fun i hi => (hf.2 i hi).keep hk⟩

/-- A slice of one's own: nil, or a block that is one's own. -/
def OwnAt (h : Heap) (N : Nat → Prop) (ob : Option Nat) (n s : Nat) (cs : List PV) (a : Value) : Prop :=
  (ob = none ∧ n = 0 ∧ cs = [] ∧ a = .slice none 0 0) ∨ ∃ b ca, ob = some b ∧ a = .slice (some ⟨b, 0, none⟩) n s ∧ h[b]? = some (.mem false ca) ∧ n * s = cs.length ∧ FRs h N cs ca

def CVR (β : Option Nat → Option Nat) (h : Heap) (N : Nat → Prop) (j : Nat) : CV → Value → Prop
  | .v p, a => FR h N p a
  | .o n s cs, a => OwnAt h N (β (some j)) n s cs a
  | .gone, _ => True

/-- Values that are a thing's own, by the key of the thing. -/
def TRr (β : Option Nat → Option Nat) (h : Heap) (N : Nat → Prop) : TV → Value → Prop
  | .own n s cs, a => OwnAt h N (β none) n s cs a
  | .box cs, a => ∃ b ca, β none = some b ∧ a = .pointer (some ⟨b, 0, none⟩) ∧ h[b]? = some (.mem false ca) ∧ cs.length = ca.length ∧ ∀ j, j < cs.length → CVR β h N j (cs.getD j .gone) (ca.getD j Go.undef)
  | .tup l, a => ∃ as : Array Value, a = .tuple as ∧ l.length = as.size ∧ ∀ j, j < l.length → CVR β h N j (l.getD j .gone) (as.toList.getD j Go.undef)
  | .hbox cs, _ => ∃ b ca, β none = some b ∧ h[b]? = some (.mem false ca) ∧ cs.length = ca.length ∧ ∀ j, j < cs.length → CVR β h N j (cs.getD j .gone) (ca.getD j Go.undef)
  | _, _ => False

/-- What a function literal took with it. -/
def CapR (β : Nat → Option Nat → Option Nat) (h : Heap) (N : Nat → Prop) : Nat ⊕ PV → Value → Prop
  | .inl k, a => ∃ b, β k none = some b ∧ a = .pointer (some ⟨b, 0, none⟩)
  | .inr p, a => FR h N p a

def TR (β : Nat → Option Nat → Option Nat) (h : Heap) (N : Nat → Prop) (i : Nat) : TV → Value → Prop
  | .undef, _ => True
  | .skip, a => a = Go.undef
  | .val p, a => FR h N p a
  | .ref k c off, a => ∃ b, β k c = some b ∧ a = .pointer (some ⟨b, off, none⟩)
  | .slc k c off n s, a => (β k c = none ∧ n = 0 ∧ a = .slice none 0 0) ∨ ∃ b, β k c = some b ∧ a = .slice (some ⟨b, off, none⟩) n s
  | .pf cs off, a => ∃ b o ro ca, a = .pointer (some ⟨b, o + off, none⟩) ∧ ¬ N b ∧ h[b]? = some (.mem ro ca) ∧ o + cs.length ≤ ca.length ∧ ∀ i, i < cs.length → FR h N (cs.getD i default) (ca.getD (o + i) Go.undef)
  | .own n s cs, a => TRr (β i) h N (.own n s cs) a
  | .box cs, a => TRr (β i) h N (.box cs) a
  | .tup l, a => TRr (β i) h N (.tup l) a
  | .hbox cs, a => TRr (β i) h N (.hbox cs) a
  | .clo f caps, a => ∃ as : Array Value, a = .func (.func f) #[] as ∧ caps.length = as.size ∧ ∀ j, j < caps.length → CapR β h N (caps.getD j (.inl 0)) (as.toList.getD j Go.undef)

abbrev Bt := Nat → Option Nat → Option Nat

def NF (M : Nat → Prop) (β : Bt) : Nat → Prop := fun b => M b ∨ ∃ k c, β k c = some b

structure SR (M : Nat → Prop) (β : Bt) (h : Heap) (t : TT) (tA : T) : Prop where
  tr : ∀ i, TR β h (NF M β) i (t i) (tA i)
  inj : ∀ k c k' c' b, β k c = some b → β k' c' = some b → k = k' ∧ c = c'
  lt : ∀ k c b, β k c = some b → b < h.length ∧ ¬ M b
  mlt : ∀ b, M b → b < h.length

/-- What a step leaves: blocks that are not its own; and what is its own is new or was. -/
structure Fr (β : Bt) (h : Heap) (β' : Bt) (h' : Heap) : Prop where
  len : h.length ≤ h'.length
  same : ∀ b, b < h.length → (∀ k c, β k c ≠ some b) → h'[b]? = h[b]?
  own : ∀ k c b, β' k c = some b → h.length ≤ b ∨ ∃ k' c', β k' c' = some b

theorem Fr.refl {β : Bt} {h : Heap} : Fr β h β h := ⟨Nat.le_refl _, fun _ _ _ => rfl, fun k c b hb => .inr ⟨k, c, hb⟩⟩

theorem Fr.trans {β β1 β2 : Bt} {h h1 h2 : Heap} (a : Fr β h β1 h1) (b : Fr β1 h1 β2 h2) : Fr β h β2 h2 where
  len := Nat.le_trans a.len b.len
  same := fun x hx hn => by
    rw [b.same x (Nat.lt_of_lt_of_le hx a.len) (fun k c hk => ?_), a.same x hx hn]
    rcases a.own k c x hk with h3 | ⟨k', c', h3⟩
    · omega
    · exact hn k' c' h3
  own := fun k c x hx => by
    rcases b.own k c x hx with h3 | ⟨k', c', h3⟩
    · exact .inl (Nat.le_trans a.len h3)
    · exact a.own k' c' x h3

/-- The keys are as before, or fewer; the heap is the same. -/
theorem Fr.less {β β' : Bt} {h : Heap} (hb : ∀ k c b, β' k c = some b → ∃ k' c', β k' c' = some b) : Fr β h β' h := ⟨Nat.le_refl _, fun _ _ _ => rfl, fun k c b hk => .inr (hb k c b hk)⟩

theorem Keeps.less {h : Heap} {N N' : Nat → Prop} (hn : ∀ b, N' b → N b) : Keeps h N h N' := fun _ _ _ h1 h2 => ⟨fun h3 => h1 (hn _ h3), h2⟩
theorem Keeps.refl {h : Heap} {N : Nat → Prop} : Keeps h N h N := fun _ _ _ h1 h2 => ⟨h1, h2⟩

theorem OwnAt.keep {h h' : Heap} {N N' : Nat → Prop} {ob : Option Nat} {n s : Nat} {cs : List PV} {a : Value} (hf : OwnAt h N ob n s cs a) (hk : Keeps h N h' N') (hb : ∀ b, ob = some b → h'[b]? = h[b]?) : OwnAt h' N' ob n s cs a := by
  rcases hf with hf | ⟨b, ca, h1, h2, h3, h4, h5⟩
  · exact .inl hf
  · exact .inr ⟨b, ca, h1, h2, by rw [hb b h1]; exact h3, h4, h5.keep hk⟩

theorem CVR.keep {β : Option Nat → Option Nat} {h h' : Heap} {N N' : Nat → Prop} {j : Nat} {c : CV} {a : Value} (hf : CVR β h N j c a) (hk : Keeps h N h' N') (hb : ∀ b, β (some j) = some b → h'[b]? = h[b]?) : CVR β h' N' j c a := by
  cases c with
  | v p => exact FR.keep hf hk
  | o n s cs => exact OwnAt.keep hf hk hb
  | gone => trivial

theorem TRr.keep {β : Option Nat → Option Nat} {h h' : Heap} {N N' : Nat → Prop} {v : TV} {a : Value} (hf : TRr β h N v a) (hk : Keeps h N h' N') (hb : ∀ c b, β c = some b → h'[b]? = h[b]?) : TRr β h' N' v a := by
  cases v with
  | own n s cs => exact OwnAt.keep hf hk (hb _)
  | box cs =>
    obtain ⟨b, ca, h1, h2, h3, h4, h5⟩ := hf
    exact ⟨b, ca, h1, h2, by rw [hb _ b h1]; exact h3, h4, fun j hj => (h5 j hj).keep hk (hb _)⟩
  | tup l =>
    obtain ⟨as, h1, h2, h3⟩ := hf
    exact ⟨as, h1, h2, fun j hj => (h3 j hj).keep hk (hb _)⟩
  | hbox cs =>
    obtain ⟨b, ca, h1, h3, h4, h5⟩ := hf
    exact ⟨b, ca, h1, by rw [hb _ b h1]; exact h3, h4, fun j hj => (h5 j hj).keep hk (hb _)⟩
  | _ => exact hf.elim

theorem CapR.keep {β : Bt} {h h' : Heap} {N N' : Nat → Prop} {c : Nat ⊕ PV} {a : Value} (hf : CapR β h N c a) (hk : Keeps h N h' N') : CapR β h' N' c a := by
  cases c with
  | inl k => exact hf
  | inr p => exact FR.keep hf hk

theorem TR.keep {β : Bt} {h h' : Heap} {N N' : Nat → Prop} {i : Nat} {v : TV} {a : Value} (hf : TR β h N i v a) (hk : Keeps h N h' N') (hb : ∀ c b, β i c = some b → h'[b]? = h[b]?) : TR β h' N' i v a := by
  cases v with
  | undef => trivial
  | skip => exact hf
  | val p => exact FR.keep hf hk
  | ref k c off => exact hf
  | slc k c off n s => exact hf
  | pf cs off =>
    obtain ⟨b, o, ro, ca, h1, h2, h3, h4, h5⟩ := hf
    obtain ⟨q1, q2⟩ := hk b ro ca h2 h3
    exact ⟨b, o, ro, ca, h1, q1, q2, h4, fun j hj => (h5 j hj).keep hk⟩
  | own n s cs => exact TRr.keep (v := .own n s cs) (β := β i) hf hk hb
  | box cs => exact TRr.keep (v := .box cs) (β := β i) hf hk hb
  | tup l => exact TRr.keep (v := .tup l) (β := β i) hf hk hb
  | hbox l => exact TRr.keep (v := .hbox l) (β := β i) (a := a) hf hk hb
  | clo f caps =>
    obtain ⟨as, h1, h2, h3⟩ := hf
    exact ⟨as, h1, h2, fun j hj => (h3 j hj).keep hk⟩

/-- What is not a root does not hang on where it stands. -/
theorem TR.at {β : Bt} {h : Heap} {N : Nat → Prop} {i j : Nat} {v : TV} {a : Value} (hr : isRoot v = false) (hf : TR β h N i v a) : TR β h N j v a := by
  cases v <;> first | exact hf | cases hr

section
variable {M : Nat → Prop} {β : Bt} {h : Heap} {t : TT} {tA : T}

theorem SR.upd (s : SR M β h t tA) {d : Nat} {v : TV} {a : Value} (hv : TR β h (NF M β) d v a) : SR M β h (updT t d v) (Go.Wb.upd tA d a) := by
  refine ⟨fun i => ?_, s.inj, s.lt, s.mlt⟩
  unfold updT Go.Wb.upd
  split
  · rename_i hi; subst hi; exact hv
  · exact s.tr i

def setB (β : Bt) (d : Nat) (p : Option Nat → Option Nat) : Bt := fun k c => if k = d then p c else β k c

theorem setB_same {d : Nat} {p : Option Nat → Option Nat} : setB β d p d = p := by funext c; simp [setB]
theorem setB_ne {d k : Nat} {p : Option Nat → Option Nat} (hk : k ≠ d) : setB β d p k = β k := by funext c; simp [setB, hk]

theorem names_at {k : Nat} : ∀ {caps : List (Nat ⊕ PV)} {j : Nat}, j < caps.length → caps.getD j (.inl 0) = .inl k → names k caps = true
  | [], j, hj, _ => by simp at hj
  | .inl x :: l, 0, _, hc => by
    have : x = k := by simpa using hc
    subst this
    simp [names]
  | .inr x :: l, 0, _, hc => by simp at hc
  | .inl x :: l, j + 1, hj, hc => by
    have := names_at (caps := l) (j := j) (by simpa using hj) (by simpa using hc)
    simp [names, this]
  | .inr x :: l, j + 1, hj, hc => by
    have := names_at (caps := l) (j := j) (by simpa using hj) (by simpa using hc)
    simp [names, this]

theorem kl_tr {N : Nat → Prop} {d i : Nat} {p : Option Nat → Option Nat} {v : TV} {a : Value} (hi : i ≠ d) (hv : TR β h N i v a) : TR (setB β d p) h N i (kl d v) a := by
  cases v with
  | ref k c off =>
    simp only [kl]
    split
    · trivial
    · rename_i hk
      obtain ⟨b, h1, h2⟩ := hv
      exact ⟨b, by rw [setB_ne hk]; exact h1, h2⟩
  | slc k c off n s =>
    simp only [kl]
    split
    · trivial
    · rename_i hk
      rcases hv with ⟨h0, hv⟩ | ⟨b, h1, h2⟩
      · exact .inl ⟨by rw [setB_ne hk]; exact h0, hv⟩
      · exact .inr ⟨b, by rw [setB_ne hk]; exact h1, h2⟩
  | undef => trivial
  | skip => exact hv
  | val p => exact hv
  | pf cs off => exact hv
  | own n s cs =>
    simp only [kl, TR] at hv ⊢
    rw [setB_ne hi]; exact hv
  | box cs =>
    simp only [kl, TR] at hv ⊢
    rw [setB_ne hi]; exact hv
  | tup l =>
    simp only [kl, TR] at hv ⊢
    rw [setB_ne hi]; exact hv
  | hbox l =>
    simp only [kl, TR] at hv ⊢
    rw [setB_ne hi]; exact hv
  | clo f caps =>
    simp only [kl]
    split
    · trivial
    · rename_i hn
      obtain ⟨as, h1, h2, h3⟩ := hv
      refine ⟨as, h1, h2, fun j hj => ?_⟩
      have := h3 j hj
      cases hc : caps.getD j (.inl 0) with
      | inr p => rw [hc] at this; exact this
      | inl k =>
        rw [hc] at this
        obtain ⟨b, q1, q2⟩ := this
        refine ⟨b, ?_, q2⟩
        rw [setB_ne]
        · exact q1
        · intro he
          subst he
          exact hn (names_at hj hc)

/-- A root is put: its blocks come out of those that were set aside. -/
theorem SR.root {X : Nat → Prop} (s : SR (fun b => M b ∨ X b) β h t tA) {d : Nat} {v : TV} {a : Value} (p : Option Nat → Option Nat)
    (hp : ∀ c b, p c = some b → X b ∧ ¬ M b) (hi : ∀ c c' b, p c = some b → p c' = some b → c = c') (hv : TR (setB β d p) h (NF (fun b => M b ∨ X b) β) d v a) : SR M (setB β d p) h (setR t d v) (Go.Wb.upd tA d a) := by
  have hless : ∀ b, NF M (setB β d p) b → NF (fun b => M b ∨ X b) β b := by
    rintro b (hb | ⟨k, c, hb⟩)
    · exact .inl (.inl hb)
    · unfold setB at hb
      split at hb
      · exact .inl (.inr (hp c b hb).1)
      · exact .inr ⟨k, c, hb⟩
  refine ⟨fun i => ?_, ?_, ?_, fun b hb => s.mlt b (.inl hb)⟩
  · unfold setR Go.Wb.upd
    split
    · rename_i hi; subst hi
      exact hv.keep (Keeps.less hless) (fun _ _ _ => rfl)
    · rename_i hi
      exact (kl_tr hi (s.tr i)).keep (Keeps.less hless) (fun _ _ _ => rfl)
  · intro k c k' c' b h1 h2
    unfold setB at h1 h2
    split at h1
    · rename_i hk; subst hk
      split at h2
      · rename_i hk'; subst hk'
        exact ⟨rfl, hi c c' b h1 h2⟩
      · exact absurd (.inr (hp c b h1).1) (s.lt k' c' b h2).2
    · split at h2
      · exact absurd (.inr (hp c' b h2).1) (s.lt k c b h1).2
      · exact s.inj k c k' c' b h1 h2
  · intro k c b hb
    unfold setB at hb
    split at hb
    · exact ⟨s.mlt b (.inr (hp c b hb).1), (hp c b hb).2⟩
    · exact ⟨(s.lt k c b hb).1, fun hm => (s.lt k c b hb).2 (.inl hm)⟩

/-- More blocks, or other ones among those that nobody names. -/
theorem SR.heap {h' : Heap} {X Y : Nat → Prop} (s : SR (fun b => M b ∨ X b) β h t tA) (hl : h.length ≤ h'.length) (hs : ∀ b, b < h.length → ¬ X b → h'[b]? = h[b]?) (hY : ∀ b, Y b → X b ∨ (h.length ≤ b ∧ b < h'.length)) :
    SR (fun b => M b ∨ Y b) β h' t tA := by
  have hk : Keeps h (NF (fun b => M b ∨ X b) β) h' (NF (fun b => M b ∨ Y b) β) := by
    intro b ro ca h1 h2
    have hb : b < h.length := get_lt h2
    have hx : ¬ X b := fun hx => h1 (.inl (.inr hx))
    refine ⟨?_, by rw [hs b hb hx]; exact h2⟩
    rintro ((hm | hy) | ho)
    · exact h1 (.inl (.inl hm))
    · rcases hY b hy with hy | hy
      · exact hx hy
      · omega
    · exact h1 (.inr ho)
  refine ⟨fun i => (s.tr i).keep hk fun c b hb => ?_, s.inj, fun k c b hb => ⟨Nat.lt_of_lt_of_le (s.lt k c b hb).1 hl, ?_⟩, ?_⟩
  · have h1 := s.lt i c b hb
    exact hs b h1.1 fun hx => h1.2 (.inr hx)
  · have h1 := s.lt k c b hb
    rintro (hm | hy)
    · exact h1.2 (.inl hm)
    · rcases hY b hy with hy | hy
      · exact h1.2 (.inr hy)
      · omega
  · rintro b (hm | hy)
    · exact Nat.lt_of_lt_of_le (s.mlt b (.inl hm)) hl
    · rcases hY b hy with hy | hy
      · exact Nat.lt_of_lt_of_le (s.mlt b (.inr hy)) hl
      · exact hy.2

theorem SR.set0 (s : SR M β h t tA) : SR (fun b => M b ∨ False) β h t tA := by simpa using s
theorem SR.weak {X : Nat → Prop} (s : SR (fun b => M b ∨ X b) β h t tA) : SR M β h t tA := by
  have := s.heap (Y := fun _ => False) (Nat.le_refl _) (fun _ _ _ => rfl) (fun _ hf => hf.elim)
  simpa using this

/-- A key is let go: its block is set aside. -/
theorem SR.drop {X : Nat → Prop} (s : SR (fun b => M b ∨ X b) β h t tA) (k : Nat) (keep : Option Nat → Bool) (v : TV)
    (hv : TR (setB β k fun c => if keep c then β k c else none) h (NF (fun b => M b ∨ X b) β) k v (tA k)) (f : TV → TV)
    (hf : ∀ i u a, i ≠ k → TR β h (NF (fun b => M b ∨ X b) β) i u a → TR (setB β k fun c => if keep c then β k c else none) h (NF (fun b => M b ∨ X b) β) i (f u) a) :
    SR (fun b => M b ∨ (X b ∨ ∃ c, keep c = false ∧ β k c = some b)) (setB β k fun c => if keep c then β k c else none) h (fun i => if i = k then v else f (t i)) tA := by
  have hsub : ∀ k' c b, setB β k (fun c => if keep c then β k c else none) k' c = some b → β k' c = some b := by
    intro k' c b hb
    unfold setB at hb
    split at hb
    · rename_i hk; subst hk
      dsimp only at hb
      split at hb
      · exact hb
      · cases hb
    · exact hb
  have hkp : Keeps h (NF (fun b => M b ∨ X b) β) h (NF (fun b => M b ∨ (X b ∨ ∃ c, keep c = false ∧ β k c = some b)) (setB β k fun c => if keep c then β k c else none)) := by
    refine Keeps.less ?_
    rintro b ((hm | hx | ⟨c, _, hc⟩) | ⟨k', c, hc⟩)
    · exact .inl (.inl hm)
    · exact .inl (.inr hx)
    · exact .inr ⟨k, c, hc⟩
    · exact .inr ⟨k', c, hsub _ _ _ hc⟩
  refine ⟨fun i => ?_, fun k1 c1 k2 c2 b h1 h2 => s.inj k1 c1 k2 c2 b (hsub _ _ _ h1) (hsub _ _ _ h2), ?_, ?_⟩
  · split
    · rename_i hi; subst hi
      exact hv.keep hkp (fun _ _ _ => rfl)
    · rename_i hi
      exact (hf i _ _ hi (s.tr i)).keep hkp (fun _ _ _ => rfl)
  · intro k' c b hb
    have h1 := s.lt k' c b (hsub _ _ _ hb)
    refine ⟨h1.1, ?_⟩
    rintro (hm | hx | ⟨c2, hk2, hc2⟩)
    · exact h1.2 (.inl hm)
    · exact h1.2 (.inr hx)
    · obtain ⟨e1, e2⟩ := s.inj _ _ _ _ _ (hsub _ _ _ hb) hc2
      subst e1 e2
      unfold setB at hb
      rw [if_pos rfl] at hb
      dsimp only at hb
      rw [if_neg (by simp [hk2])] at hb
      cases hb
  · rintro b (hm | hx | ⟨c, _, hc⟩)
    · exact s.mlt b (.inl hm)
    · exact s.mlt b (.inr hx)
    · exact (s.lt k c b hc).1

/-- A block of one's own is written. -/
theorem SR.write (s : SR M β h t tA) {k : Nat} {c : Option Nat} {b : Nat} {ca : List Value} (hb : β k c = some b) (v : TV) (f : TV → TV) (hf : ∀ i u a, i ≠ k → TR β h (NF M β) i u a → TR β h (NF M β) i (f u) a)
    (hv : ∀ h', h' = h.set b (.mem false ca) → Keeps h (NF M β) h' (NF M β) → TR β h' (NF M β) k v (tA k)) : SR M β (h.set b (.mem false ca)) (fun i => if i = k then v else f (t i)) tA := by
  have hk : Keeps h (NF M β) (h.set b (.mem false ca)) (NF M β) := by
    intro b' ro ca' h1 h2
    refine ⟨h1, ?_⟩
    have hne : b ≠ b' := fun he => h1 (.inr ⟨k, c, he ▸ hb⟩)
    rw [List.getElem?_set_ne hne]
    exact h2
  refine ⟨fun i => ?_, s.inj, fun k c b hb => by rw [List.length_set]; exact s.lt k c b hb, fun b hb => by rw [List.length_set]; exact s.mlt b hb⟩
  split
  · rename_i hi; subst hi
    exact hv _ rfl hk
  · rename_i hi
    refine (hf i _ _ hi (s.tr i)).keep hk fun c' b' hb' => ?_
    have hne : b ≠ b' := fun he => hi (s.inj _ _ _ _ _ (he ▸ hb') hb).1
    rw [List.getElem?_set_ne hne]

theorem Fr.write {b : Nat} {k : Nat} {c : Option Nat} (hb : β k c = some b) {x : Blk} : Fr β h β (h.set b x) := by
  refine ⟨by simp, fun b' _ hn => ?_, fun k c b hb => .inr ⟨k, c, hb⟩⟩
  have hne : b ≠ b' := fun he => hn k c (he ▸ hb)
  rw [List.getElem?_set_ne hne]

end
end Go.Wb

/- What the value machine reads, the abstract machine reads. -/
namespace Go.Wb
open Go

theorem getD_lt {α : Type} {l : List α} {i : Nat} {d : α} (h : i < l.length) : l[i]? = some (l.getD i d) := by
  simp [List.getD, h]

theorem pvC_fr {h : Heap} {N : Nat → Prop} {v : Value} {p : PV} (hp : pvC v = some p) : FR h N p v := by
  unfold pvC at hp
  split at hp
  · injection hp with hp; subst hp; exact .slNil
  · split at hp
    · rename_i hs
      injection hp with hp; subst hp; exact .sc _ hs
    · cases hp

section
variable {M : Nat → Prop} {β : Bt} {h : Heap} {t : TT} {tA : T}

theorem ev_val (s : SR M β h t tA) {x : Operand} {p : PV} (hx : EvT t x = .val p) : FR h (NF M β) p (Ev tA x) := by
  cases x with
  | tmp i => have := s.tr i; simp only [EvT] at hx; rw [hx] at this; exact this
  | const v =>
    simp only [EvT] at hx
    split at hx
    · rename_i hp
      injection hx with hx
      subst hx
      exact pvC_fr hp
    · cases hx
  | global g => cases hx
  | func f =>
    simp only [EvT] at hx
    injection hx with hx
    subst hx
    exact .sc _ rfl

theorem ev_sc (s : SR M β h t tA) {x : Operand} {v : Value} (hx : EvT t x = .val (.sc v)) : Ev tA x = v ∧ scalar v = true := by
  have := ev_val s hx
  cases this with
  | sc v hv => exact ⟨rfl, hv⟩

theorem ev_pf (s : SR M β h t tA) {x : Operand} {cs : List PV} {off : Nat} (hx : EvT t x = .pf cs off) : TR β h (NF M β) 0 (.pf cs off) (Ev tA x) := by
  cases x with
  | tmp i => have := s.tr i; simp only [EvT] at hx; rw [hx] at this; exact this
  | const v => simp only [EvT] at hx; split at hx <;> cases hx
  | global g => cases hx
  | func f => cases hx

theorem plc_ok (s : SR M β h t tA) {x : Operand} {k : Nat} {c : Option Nat} {off : Nat} (hx : plc t x = some (k, c, off)) : ∃ b, β k c = some b ∧ Ev tA x = .pointer (some ⟨b, off, none⟩) := by
  unfold plc at hx
  split at hx
  · rename_i i
    have := s.tr i
    split at hx
    · rename_i cs hi
      injection hx with hx; injection hx with e1 hx; injection hx with e2 e3
      subst e1 e2 e3
      rw [hi] at this
      obtain ⟨b, ca, h1, h2, _⟩ := this
      exact ⟨b, h1, h2⟩
    · rename_i k' c' off' hi
      injection hx with hx; injection hx with e1 hx; injection hx with e2 e3
      subst e1 e2 e3
      rw [hi] at this
      exact this
    · cases hx
  · cases hx

theorem at_box (s : SR M β h t tA) {k : Nat} {cs : List CV} (hk : t k = .box cs) {b : Nat} (hb : β k none = some b) :
    ∃ ca, tA k = .pointer (some ⟨b, 0, none⟩) ∧ h[b]? = some (.mem false ca) ∧ cs.length = ca.length ∧ ∀ j, j < cs.length → CVR (β k) h (NF M β) j (cs.getD j .gone) (ca.getD j Go.undef) := by
  have := s.tr k
  rw [hk] at this
  obtain ⟨b', ca, h1, h2, h3, h4, h5⟩ := this
  rw [hb] at h1
  injection h1 with h1
  subst h1
  exact ⟨ca, h2, h3, h4, h5⟩

theorem at_own (s : SR M β h t tA) {k n s' : Nat} {cs : List PV} (hk : t k = .own n s' cs) {b : Nat} (hb : β k none = some b) :
    ∃ ca, tA k = .slice (some ⟨b, 0, none⟩) n s' ∧ h[b]? = some (.mem false ca) ∧ n * s' = cs.length ∧ FRs h (NF M β) cs ca := by
  have := s.tr k
  rw [hk] at this
  rcases this with ⟨h1, _⟩ | ⟨b', ca, h1, h2, h3, h4, h5⟩
  · rw [hb] at h1; cases h1
  · rw [hb] at h1
    injection h1 with h1
    subst h1
    exact ⟨ca, h2, h3, h4, h5⟩

theorem cell_own {β' : Option Nat → Option Nat} {N : Nat → Prop} {cs : List CV} {ca : List Value} {j n s' : Nat} {l : List PV} (hc : ∀ j, j < cs.length → CVR β' h N j (cs.getD j .gone) (ca.getD j Go.undef)) (hj : cellC cs j = some (.o n s' l)) :
    j < cs.length ∧ OwnAt h N (β' (some j)) n s' l (ca.getD j Go.undef) := by
  unfold cellC at hj
  have hlt : j < cs.length := (List.getElem?_eq_some_iff.1 hj).1
  have := hc j hlt
  rw [List.getD_eq_getElem?_getD, hj] at this
  exact ⟨hlt, this⟩

/-- A slice as the abstract machine has it, and what can be read of it. -/
def SlA (h : Heap) (N : Nat → Prop) (n : Nat) (cs : List PV) (a : Value) : Prop :=
  (n = 0 ∧ cs = [] ∧ (a = .slice none 0 0 ∨ ∃ b o s, a = .slice (some ⟨b, o, none⟩) 0 s)) ∨
  ∃ b o s ro ca, a = .slice (some ⟨b, o, none⟩) n s ∧ h[b]? = some (.mem ro ca) ∧ n * s = cs.length ∧ o + cs.length ≤ ca.length ∧ ∀ i, i < cs.length → FR h N (cs.getD i default) (ca.getD (o + i) Go.undef)

theorem fr_sl {N : Nat → Prop} {n : Nat} {cs : List PV} {a : Value} (hf : FR h N (.sl n cs) a) : SlA h N n cs a := by
  cases hf with
  | slNil => exact .inl ⟨rfl, rfl, .inl rfl⟩
  | slE b o s => exact .inl ⟨rfl, rfl, .inr ⟨b, o, s, rfl⟩⟩
  | sl n s cs b o ro ca hn hb hl hf hc => exact .inr ⟨b, o, s, ro, ca, rfl, hb, hl, hf, hc⟩

theorem own_sla {N : Nat → Prop} {ob : Option Nat} {n s : Nat} {cs : List PV} {a : Value} (hf : OwnAt h N ob n s cs a) : SlA h N n cs a := by
  rcases hf with ⟨_, rfl, rfl, rfl⟩ | ⟨b, ca, _, h2, h3, h4, h5⟩
  · exact .inl ⟨rfl, rfl, .inl rfl⟩
  · exact .inr ⟨b, 0, s, false, ca, h2, h3, h4, by rw [h5.1]; omega, fun i hi => by rw [Nat.zero_add]; exact h5.2 i hi⟩

theorem take_drop_getD {α : Type} {l : List α} {o n i : Nat} {d : α} (hi : i < n) : ((l.drop o).take n).getD i d = l.getD (o + i) d := by
  simp only [List.getD_eq_getElem?_getD, List.getElem?_take, List.getElem?_drop]
  rw [if_pos hi]

theorem sub_sla {N : Nat → Prop} {b off m s n : Nat} {cs l : List PV} {ca : List Value} (hb : h[b]? = some (.mem false ca)) (hl : n * s = cs.length) (hf : FRs h N cs ca) (hsub : sub n s cs off m = some l) :
    SlA h N m l (.slice (some ⟨b, off, none⟩) m s) := by
  unfold sub at hsub
  split at hsub
  · rename_i hc
    obtain ⟨rfl, rfl⟩ := hc
    injection hsub with hsub
    subst hsub
    exact .inr ⟨b, 0, s, false, ca, rfl, hb, hl, by rw [hf.1]; omega, fun i hi => by rw [Nat.zero_add]; exact hf.2 i hi⟩
  · split at hsub
    · rename_i hle
      injection hsub with hsub
      subst hsub
      have hlen : ((cs.drop off).take (m * s)).length = m * s := by rw [List.length_take, List.length_drop]; omega
      refine .inr ⟨b, off, s, false, ca, rfl, hb, hlen.symm, by rw [hlen, ← hf.1]; exact hle, fun i hi => ?_⟩
      rw [hlen] at hi
      rw [take_drop_getD hi]
      exact hf.2 _ (by omega)
    · cases hsub

theorem unv_ok {β' : Option Nat → Option Nat} {N : Nat → Prop} : ∀ {cs : List CV} {l : List PV}, unv cs = some l → cs = l.map .v
  | [], l, hx => by simp only [unv] at hx; injection hx with hx; subst hx; rfl
  | .v p :: cs, l, hx => by
    simp only [unv, Option.map_eq_some_iff] at hx
    obtain ⟨l', h1, rfl⟩ := hx
    rw [unv_ok (β' := β') (N := N) h1]
    rfl
  | .o .. :: cs, l, hx => by simp [unv] at hx
  | .gone :: cs, l, hx => by simp [unv] at hx

theorem map_v_getD {l : List PV} {i : Nat} (hi : i < l.length) : (l.map CV.v).getD i .gone = .v (l.getD i default) := by
  simp [List.getD, hi]

/-- Cells of a box that are values. -/
theorem unv_fr {β' : Option Nat → Option Nat} {N : Nat → Prop} {cs : List CV} {ca : List Value} {off m : Nat} {l : List PV} (hlen : cs.length = ca.length) (hc : ∀ j, j < cs.length → CVR β' h N j (cs.getD j .gone) (ca.getD j Go.undef))
    (hle : off + m ≤ cs.length) (hx : unv ((cs.drop off).take m) = some l) : l.length = m ∧ ∀ i, i < m → FR h N (l.getD i default) (ca.getD (off + i) Go.undef) := by
  have he := unv_ok (β' := β') (N := N) hx
  have hl : l.length = m := by
    have := congrArg List.length he
    rw [List.length_map, List.length_take, List.length_drop] at this
    omega
  refine ⟨hl, fun i hi => ?_⟩
  have h1 := hc (off + i) (by omega)
  rw [← take_drop_getD (l := cs) hi, he, map_v_getD (by omega)] at h1
  exact h1

theorem rdSlc_ok (s : SR M β h t tA) {k : Nat} {c : Option Nat} {off n s' : Nat} {l : List PV} {a : Value} (ha : TR β h (NF M β) 0 (.slc k c off n s') a) (hx : rdSlc t k c off n s' = some l) : SlA h (NF M β) n l a := by
  have nilcase : n = 0 → a = .slice none 0 0 → l.length = 0 → SlA h (NF M β) n l a := fun h1 h2 h3 => .inl ⟨h1, List.length_eq_zero_iff.1 h3, .inl h2⟩
  unfold rdSlc at hx
  split at hx
  · rename_i n' s2 cs hk
    split at hx
    · rename_i hs
      subst hs
      have htr := s.tr k
      rw [hk] at htr
      rcases ha with ⟨_, h0, hn⟩ | ⟨b, hb, rfl⟩
      · refine nilcase h0 hn ?_
        have hsl := own_sla htr
        unfold sub at hx
        split at hx
        · rename_i hc
          injection hx with hx
          subst hx
          rcases hsl with ⟨_, h2, _⟩ | ⟨_, _, _, _, _, _, _, h4, _⟩
          · simp [h2]
          · rcases htr with ⟨_, _, h3, _⟩ | ⟨_, _, _, _, _, h4, _⟩
            · simp [h3]
            · rw [← h4, ← hc.2, h0, Nat.zero_mul]
        · split at hx
          · injection hx with hx
            subst hx
            simp [h0]
          · cases hx
      · obtain ⟨ca, h1, h2, h3, h4⟩ := at_own s hk hb
        exact sub_sla h2 h3 h4 hx
    · cases hx
  · rename_i cs hk
    split at hx
    · rename_i hle
      rcases ha with ⟨_, h0, hn⟩ | ⟨b, hb, rfl⟩
      · refine nilcase h0 hn ?_
        have he := unv_ok (β' := β k) (N := NF M β) hx
        have := congrArg List.length he
        rw [List.length_map, List.length_take, h0, Nat.zero_mul] at this
        omega
      · obtain ⟨ca, h1, h2, h3, h4⟩ := at_box s hk hb
        obtain ⟨q1, q2⟩ := unv_fr h3 h4 hle hx
        exact .inr ⟨b, off, s', false, ca, rfl, h2, q1.symm, by rw [q1, ← h3]; exact hle, fun i hi => q2 i (by omega)⟩
    · cases hx
  · rename_i j cs hk
    split at hx
    · rename_i n' s2 l' hj
      split at hx
      · rename_i hs
        subst hs
        have htr := s.tr k
        rw [hk] at htr
        obtain ⟨b0, ca0, g1, g2, g3, g4, g5⟩ := htr
        obtain ⟨hjl, hown⟩ := cell_own g5 hj
        rcases ha with ⟨_, h0, hn⟩ | ⟨b, hb, rfl⟩
        · refine nilcase h0 hn ?_
          unfold sub at hx
          split at hx
          · rename_i hc
            injection hx with hx
            subst hx
            rcases hown with ⟨_, _, h3, _⟩ | ⟨_, _, _, _, _, h4, _⟩
            · simp [h3]
            · rw [← h4, ← hc.2, h0, Nat.zero_mul]
          · split at hx
            · injection hx with hx
              subst hx
              simp [h0]
            · cases hx
        · rcases hown with ⟨h1, _⟩ | ⟨b', ca, h1, h2, h3, h4, h5⟩
          · rw [hb] at h1; cases h1
          · rw [hb] at h1
            injection h1 with h1
            subst h1
            exact sub_sla h3 h4 h5 hx
      · cases hx
    · cases hx
  · cases hx

theorem ev_slc (s : SR M β h t tA) {x : Operand} {k : Nat} {c : Option Nat} {off n s' : Nat} (hx : EvT t x = .slc k c off n s') : TR β h (NF M β) 0 (.slc k c off n s') (Ev tA x) := by
  cases x with
  | tmp i => have := s.tr i; simp only [EvT] at hx; rw [hx] at this; exact this
  | const v => simp only [EvT] at hx; split at hx <;> cases hx
  | global g => cases hx
  | func f => cases hx

theorem ev_own (s : SR M β h t tA) {x : Operand} {n s' : Nat} {cs : List PV} (hx : EvT t x = .own n s' cs) : ∃ i, x = .tmp i ∧ t i = .own n s' cs ∧ OwnAt h (NF M β) (β i none) n s' cs (tA i) := by
  cases x with
  | tmp i => have := s.tr i; simp only [EvT] at hx; rw [hx] at this; exact ⟨i, rfl, hx, this⟩
  | const v => simp only [EvT] at hx; split at hx <;> cases hx
  | global g => cases hx
  | func f => cases hx

theorem slv_ok (s : SR M β h t tA) {x : Operand} {n : Nat} {cs : List PV} (hx : slv t x = some (n, cs)) : SlA h (NF M β) n cs (Ev tA x) := by
  unfold slv at hx
  split at hx
  · rename_i n' cs' he
    injection hx with hx; injection hx with e1 e2; subst e1 e2
    exact fr_sl (ev_val s he)
  · rename_i n' s' cs' he
    injection hx with hx; injection hx with e1 e2; subst e1 e2
    obtain ⟨i, rfl, _, ho⟩ := ev_own s he
    exact own_sla ho
  · rename_i k c off n' s' he
    rw [Option.map_eq_some_iff] at hx
    obtain ⟨l, h1, h2⟩ := hx
    injection h2 with e1 e2; subst e1 e2
    exact rdSlc_ok s (ev_slc s he) h1
  · cases hx

theorem slLen_ok (s : SR M β h t tA) {x : Operand} {n : Nat} (hx : slLen (EvT t x) = some n) : (∃ p s, Ev tA x = .slice p n s) ∧ (0 < n → ∃ p s, Ev tA x = .slice (some p) n s) := by
  unfold slLen at hx
  split at hx
  · rename_i n' cs' he
    injection hx with hx; subst hx
    rcases fr_sl (ev_val s he) with ⟨h1, h2, h3 | ⟨b, o, s', h3⟩⟩ | ⟨b, o, s', ro, ca, h3, _⟩
    · exact ⟨⟨_, _, by rw [h3, h1]⟩, fun h => by omega⟩
    · exact ⟨⟨_, _, by rw [h3, h1]⟩, fun h => by omega⟩
    · exact ⟨⟨_, _, h3⟩, fun _ => ⟨_, _, h3⟩⟩
  · rename_i n' s' cs' he
    injection hx with hx; subst hx
    obtain ⟨i, rfl, _, ho⟩ := ev_own s he
    rcases ho with ⟨_, h1, _, h3⟩ | ⟨b, ca, _, h3, _⟩
    · exact ⟨⟨none, 0, by simp only [Ev]; rw [h3, h1]⟩, fun h => by omega⟩
    · exact ⟨⟨_, _, h3⟩, fun _ => ⟨_, _, h3⟩⟩
  · rename_i k c off n' s' he
    injection hx with hx; subst hx
    rcases ev_slc s he with ⟨_, h1, h3⟩ | ⟨b, _, h3⟩
    · exact ⟨⟨none, 0, by rw [h3, h1]⟩, fun h => by omega⟩
    · exact ⟨⟨_, _, h3⟩, fun _ => ⟨_, _, h3⟩⟩
  · cases hx

/-- What is appended or copied. -/
theorem srcP_ok (s : SR M β h t tA) {size : Nat} {x : Operand} {n : Nat} {cs : List PV} (hx : srcP size t x = some (n, cs)) :
    ∃ ca, srcCells h size (Ev tA x) = some ca ∧ srcLen (Ev tA x) = n ∧ n * size = cs.length ∧ FRs h (NF M β) cs ca := by
  unfold srcP at hx
  split at hx
  · rename_i str he
    split at hx
    · rename_i h1
      injection hx with hx; injection hx with e1 e2; subst e1 e2
      rw [(ev_sc s he).1]
      subst h1
      refine ⟨str.data.toList.map fun b => .int .u8 b.toNat, by simp [srcCells], rfl, by rw [Nat.mul_one, List.length_map, Array.length_toList]; rfl, by rw [List.length_map, List.length_map], fun i hi => ?_⟩
      rw [List.length_map] at hi
      have e1 : (str.data.toList.map fun b => PV.sc (.int .u8 b.toNat)).getD i default = .sc (.int .u8 (str.data.toList[i]).toNat) := by
        simp only [List.getD_eq_getElem?_getD, List.getElem?_map, List.getElem?_eq_getElem hi, Option.map_some, Option.getD_some]
      have e2 : (str.data.toList.map fun b => Value.int .u8 b.toNat).getD i Go.undef = (.int .u8 (str.data.toList[i]).toNat) := by
        simp only [List.getD_eq_getElem?_getD, List.getElem?_map, List.getElem?_eq_getElem hi, Option.map_some, Option.getD_some]
      rw [e1, e2]
      exact .sc _ rfl
    · cases hx
  · split at hx
    · rename_i n' cs' hsl
      split at hx
      · rename_i hn
        injection hx with hx; injection hx with e1 e2; subst e1 e2
        rcases slv_ok s hsl with ⟨rfl, rfl, h3 | ⟨b, o, s', h3⟩⟩ | ⟨b, o, s', ro, ca, h3, h4, h5, h6, h7⟩
        · rw [h3]
          exact ⟨[], rfl, rfl, by simp, rfl, by simp⟩
        · rw [h3]
          exact ⟨[], by simp [srcCells], rfl, by simp, rfl, by simp⟩
        · rw [h3]
          by_cases h0 : n' = 0
          · subst h0
            have : cs'.length = 0 := by omega
            have : cs' = [] := List.length_eq_zero_iff.1 this
            subst this
            exact ⟨[], by simp [srcCells], rfl, by simp, rfl, by simp⟩
          · have hss : s' = size := by
              have : n' * s' = n' * size := by rw [h5, hn]
              exact Nat.eq_of_mul_eq_mul_left (by omega) this
            subst hss
            refine ⟨(ca.drop o).take (n' * s'), ?_, rfl, hn, ?_, fun i hi => ?_⟩
            · simp only [srcCells, if_neg h0, if_true, readN, h4]
              rw [if_pos (by omega)]
            · rw [List.length_take, List.length_drop]; omega
            · rw [take_drop_getD (by omega)]
              exact h7 i hi
      · cases hx
    · cases hx

theorem fr_one {N : Nat → Prop} {p : PV} {a : Value} (hf : FR h N p a) (hp : ∀ cs, p ≠ .agg cs) : a.oneCell' = true ∧ isTuple a = false ∧ valCells a = [a] := by
  cases hf with
  | sc _ hv => cases a <;> first | exact ⟨rfl, rfl, rfl⟩ | simp [scalar] at hv
  | agg cs a hl hc => exact absurd rfl (hp cs)
  | slNil => exact ⟨rfl, rfl, rfl⟩
  | slE => exact ⟨rfl, rfl, rfl⟩
  | sl => exact ⟨rfl, rfl, rfl⟩

theorem fr_agg {N : Nat → Prop} {cs : List PV} {a : Value} (hf : FR h N (.agg cs) a) : ∃ as : Array Value, a = .agg as ∧ FRs h N cs as.toList := by
  cases hf with
  | agg cs a hl hc => exact ⟨a, rfl, by rw [hl, Array.length_toList], hc⟩

theorem frs_agg {N : Nat → Prop} {cs : List PV} {ca : List Value} (hf : FRs h N cs ca) : FR h N (.agg cs) (.agg ca.toArray) := .agg _ _ (by rw [hf.1]; simp) (by simpa using hf.2)

theorem frs_cells {N : Nat → Prop} {p : PV} {a : Value} (hf : FR h N p a) : FRs h N (pvCells p) (valCells a) ∧ isTuple a = false := by
  cases p with
  | agg cs =>
    obtain ⟨as, rfl, h1⟩ := fr_agg hf
    exact ⟨h1, rfl⟩
  | _ =>
    obtain ⟨h1, h2, h3⟩ := fr_one hf (by simp)
    rw [h3]
    refine ⟨⟨rfl, fun i hi => ?_⟩, h2⟩
    have : i = 0 := by simpa [pvCells] using hi
    subst this
    exact hf

theorem frs_take {N : Nat → Prop} {cs : List PV} {ca : List Value} (hf : FRs h N cs ca) (n : Nat) : FRs h N (cs.take n) (ca.take n) := by
  refine ⟨by simp [hf.1], fun i hi => ?_⟩
  rw [List.length_take] at hi
  have h1 := hf.2 i (by omega)
  have e1 : (cs.take n).getD i default = cs.getD i default := by simp only [List.getD_eq_getElem?_getD, List.getElem?_take]; rw [if_pos (by omega)]
  have e2 : (ca.take n).getD i Go.undef = ca.getD i Go.undef := by simp only [List.getD_eq_getElem?_getD, List.getElem?_take]; rw [if_pos (by omega)]
  rw [e1, e2]; exact h1

theorem frs_drop {N : Nat → Prop} {cs : List PV} {ca : List Value} (hf : FRs h N cs ca) (n : Nat) : FRs h N (cs.drop n) (ca.drop n) := by
  refine ⟨by simp [hf.1], fun i hi => ?_⟩
  rw [List.length_drop] at hi
  have h1 := hf.2 (n + i) (by omega)
  have e1 : (cs.drop n).getD i default = cs.getD (n + i) default := by simp only [List.getD_eq_getElem?_getD, List.getElem?_drop]
  have e2 : (ca.drop n).getD i Go.undef = ca.getD (n + i) Go.undef := by simp only [List.getD_eq_getElem?_getD, List.getElem?_drop]
  rw [e1, e2]; exact h1

theorem frs_append {N : Nat → Prop} {cs ds : List PV} {ca da : List Value} (hf : FRs h N cs ca) (hg : FRs h N ds da) : FRs h N (cs ++ ds) (ca ++ da) := by
  refine ⟨by simp [hf.1, hg.1], fun i hi => ?_⟩
  rw [List.length_append] at hi
  simp only [List.getD_eq_getElem?_getD]
  rcases Nat.lt_or_ge i cs.length with h1 | h1
  · rw [List.getElem?_append_left h1, List.getElem?_append_left (by rw [← hf.1]; exact h1)]
    simpa [List.getD_eq_getElem?_getD] using hf.2 i h1
  · rw [List.getElem?_append_right h1, List.getElem?_append_right (by rw [← hf.1]; exact h1), ← hf.1]
    simpa [List.getD_eq_getElem?_getD] using hg.2 (i - cs.length) (by omega)

theorem frs_set {N : Nat → Prop} {cs : List PV} {ca : List Value} {j : Nat} {p : PV} {a : Value} (hf : FRs h N cs ca) (hp : FR h N p a) : FRs h N (cs.set j p) (ca.set j a) := by
  refine ⟨by simp [hf.1], fun i hi => ?_⟩
  rw [List.length_set] at hi
  simp only [List.getD_eq_getElem?_getD, List.getElem?_set]
  by_cases h1 : j = i
  · subst h1
    rw [if_pos rfl, if_pos hi, if_pos rfl, if_pos (by rw [← hf.1]; exact hi)]
    exact hp
  · rw [if_neg h1, if_neg h1]
    simpa [List.getD_eq_getElem?_getD] using hf.2 i hi

theorem frs_rep {N : Nat → Prop} {cs : List PV} {ca : List Value} (hf : FRs h N cs ca) (n : Nat) : FRs h N (repP n cs) (repCells n ca) := by
  have gen : ∀ n, FRs h N (List.replicate n cs).flatten (List.replicate n ca).flatten := by
    intro n
    induction n with
    | zero => exact ⟨rfl, by simp⟩
    | succ n ih => simp only [List.replicate_succ, List.flatten_cons]; exact frs_append hf ih
  match cs, ca, hf with
  | [z], [y], hf =>
    simp only [repP, repCells]
    have := gen n
    have e1 : (List.replicate n [z]).flatten = List.replicate n z := by simp
    have e2 : (List.replicate n [y]).flatten = List.replicate n y := by simp
    rw [e1, e2] at this
    exact this
  | [], [], hf => exact gen n
  | [], _ :: _, hf => have := hf.1; simp at this
  | [z], [], hf => have := hf.1; simp at this
  | [z], _ :: _ :: _, hf => have := hf.1; simp at this
  | _ :: _ :: _, [], hf => have := hf.1; simp at this
  | _ :: _ :: _, [_], hf => have := hf.1; simp at this
  | _ :: _ :: _, _ :: _ :: _, hf => exact gen n

theorem repP_len {z : List PV} (n : Nat) : (repP n z).length = n * z.length := by
  match z with
  | [z] => simp [repP]
  | [] => simp [repP]
  | _ :: _ :: _ => simp [repP, List.length_flatten]

theorem pvCs_frs {N : Nat → Prop} : ∀ {z : List Value} {l : List PV}, pvCs z = some l → FRs h N l z
  | [], l, hx => by simp only [pvCs] at hx; injection hx with hx; subst hx; exact ⟨rfl, by simp⟩
  | z :: zs, l, hx => by
    simp only [pvCs] at hx
    split at hx
    · rename_i p l' h1 h2
      injection hx with hx; subst hx
      have ih := pvCs_frs (N := N) h2
      exact frs_append (cs := [p]) (ca := [z]) ⟨rfl, fun i hi => by have : i = 0 := by simpa using hi
                                                                    subst this; exact pvC_fr h1⟩ ih
    · cases hx

theorem fillP_ok (s : SR M β h t tA) : ∀ {ps : List (Nat × Nat × Operand)} {cs l : List PV} {ca : List Value}, FRs h (NF M β) cs ca → fillP t cs ps = some l → ∃ la, fillL tA ca ps = some la ∧ FRs h (NF M β) l la ∧ l.length = cs.length
  | [], cs, l, ca, hf, hx => by
    simp only [fillP] at hx; injection hx with hx; subst hx
    exact ⟨ca, rfl, hf, rfl⟩
  | (off, size, x) :: ps, cs, l, ca, hf, hx => by
    simp only [fillP] at hx
    split at hx
    · rename_i p he
      split at hx
      · rename_i hc
        obtain ⟨h1, h2⟩ := frs_cells (ev_val s he)
        obtain ⟨la, q1, q2, q3⟩ := fillP_ok s (frs_append (frs_append (frs_take hf off) h1) (frs_drop hf (off + size))) hx
        refine ⟨la, ?_, q2, ?_⟩
        · simp only [fillL]
          rw [if_pos ⟨by rw [← h1.1]; exact hc.1, by rw [← hf.1]; exact hc.2, h2⟩]
          exact q1
        · rw [q3]
          simp only [List.length_append, List.length_take, List.length_drop]
          omega
      · cases hx
    · cases hx

theorem bound_ok (s : SR M β h t tA) {d m r : Nat} {o : Option Operand} (hx : boundT t d m o = some r) : bound tA d m o = some r := by
  cases o with
  | none => exact hx
  | some x =>
    simp only [boundT] at hx
    simp only [bound]
    split at hx
    · rename_i k i he
      rw [(ev_sc s he).1]
      exact hx
    · cases hx

theorem zcv_ok {N : Nat → Prop} {β' : Option Nat → Option Nat} (hβ : ∀ j, β' (some j) = none) {ann : List (Nat × Nat)} : ∀ {z : List Value} {j : Nat} {cs : List CV}, zcv ann j z = some cs → cs.length = z.length ∧ ∀ i, i < cs.length → ∀ j', CVR β' h N j' (cs.getD i .gone) (z.getD i Go.undef)
  | [], j, cs, hx => by simp only [zcv] at hx; injection hx with hx; subst hx; exact ⟨rfl, by simp⟩
  | z :: zs, j, cs, hx => by
    simp only [zcv] at hx
    split at hx
    · rename_i s l h1 h2
      injection hx with hx; subst hx
      obtain ⟨q1, q2⟩ := zcv_ok hβ h2
      refine ⟨by simp [q1], fun i hi j' => ?_⟩
      cases i with
      | zero =>
        have hz : z = .slice none 0 0 := by
          split at h1
          · rename_i hn
            unfold isNilS at hn
            split at hn
            · rfl
            · cases hn
          · cases h1
        subst hz
        exact .inl ⟨hβ j', rfl, rfl, rfl⟩
      | succ i => exact q2 i (by simpa using hi) j'
    · rename_i p l _ h1 h2
      injection hx with hx; subst hx
      obtain ⟨q1, q2⟩ := zcv_ok hβ h2
      refine ⟨by simp [q1], fun i hi j' => ?_⟩
      cases i with
      | zero => exact pvC_fr h1
      | succ i => exact q2 i (by simpa using hi) j'
    · cases hx

end
end Go.Wb

/- What the value machine's operations come to, the abstract machine's come to. -/
namespace Go.Wb
open Go

def Sound (M : Nat → Prop) (β : Bt) (h : Heap) (tA : T) (r : Option (Value × Heap)) (v : TV) (t1 : TT) : Prop :=
  ∃ a h', r = some (a, h') ∧ ∀ d : Option Tmp, ∃ β', Fr β h β' h' ∧ SR M β' h' (putT t1 d v) (put tA d a)

section
variable {M : Nat → Prop} {β β1 : Bt} {h h' : Heap} {t t1 : TT} {tA : T} {r : Option (Value × Heap)} {v : TV} {a : Value}

theorem Sound.plain (ha : r = some (a, h')) (fr : Fr β h β1 h') (s : SR M β1 h' t1 tA) (hr : isRoot v = false) (hv : TR β1 h' (NF M β1) 0 v a) : Sound M β h tA r v t1 := by
  refine ⟨a, h', ha, fun d => ⟨β1, fr, ?_⟩⟩
  cases d with
  | none => exact s
  | some d =>
    simp only [putT, hr, put]
    exact s.upd (hv.at hr)

theorem Sound.root {X : Nat → Prop} (ha : r = some (a, h')) (fr : Fr β h β1 h') (s : SR (fun b => M b ∨ X b) β1 h' t1 tA) (p : Option Nat → Option Nat) (hp : ∀ c b, p c = some b → X b ∧ ¬ M b)
    (hi : ∀ c c' b, p c = some b → p c' = some b → c = c') (hX : ∀ b, X b → h.length ≤ b ∨ ∃ k c, β k c = some b) (hr : isRoot v = true) (hv : TRr p h' (NF (fun b => M b ∨ X b) β1) v a) : Sound M β h tA r v t1 := by
  refine ⟨a, h', ha, fun d => ?_⟩
  cases d with
  | none => exact ⟨β1, fr, s.weak⟩
  | some d =>
    refine ⟨setB β1 d p, ⟨fr.len, fr.same, fun k c b hb => ?_⟩, ?_⟩
    · unfold setB at hb
      split at hb
      · exact hX b (hp c b hb).1
      · exact fr.own k c b hb
    · simp only [putT, hr, put, if_true]
      refine s.root p hp hi ?_
      cases v <;> first | (cases hr; done) | skip
      all_goals
        simp only [TR]
        rw [setB_same]
        exact hv

/-- A new block, for a root with one block. -/
theorem Sound.new {cells : List Value} (ha : r = some (a, newBlk h cells)) (s : SR M β h t tA) (hr : isRoot v = true)
    (hv : ∀ N, (∀ cs ca, FRs h (NF M β) cs ca → FRs (newBlk h cells) N cs ca) → (newBlk h cells)[h.length]? = some (Blk.mem false cells) → TRr (fun c => if c = none then some h.length else none) (newBlk h cells) N v a) : Sound M β h tA r v t := by
  have hlen : (newBlk h cells).length = h.length + 1 := by simp [newBlk]
  have hget : (newBlk h cells)[h.length]? = some (Blk.mem false cells) := by simp [newBlk]
  have hold : ∀ b, b < h.length → (newBlk h cells)[b]? = h[b]? := fun b hb => by simp only [newBlk]; rw [List.getElem?_append_left hb]
  have s1 := s.set0.heap (h' := newBlk h cells) (Y := fun b => b = h.length) (by omega) (fun b hb _ => hold b hb) (fun b hb => .inr (by subst hb; omega))
  refine Sound.root (X := fun b => b = h.length) ha ⟨by omega, fun b hb _ => hold b hb, fun k c b hb => .inr ⟨k, c, hb⟩⟩ s1 (fun c => if c = none then some h.length else none) ?_ ?_ ?_ hr ?_
  · intro c b hb
    split at hb
    · injection hb with hb
      exact ⟨hb.symm, fun hm => by have := s.mlt b hm; omega⟩
    · cases hb
  · intro c c' b h1 h2
    split at h1 <;> split at h2 <;> simp_all
  · intro b hb
    exact .inl (by omega)
  · refine hv _ (fun cs ca hf => hf.keep ?_) hget
    intro b ro ca' h1 h2
    have hb : b < h.length := get_lt h2
    refine ⟨?_, by rw [hold b hb]; exact h2⟩
    rintro ((hm | hx) | ho)
    · exact h1 (.inl hm)
    · have hx : b = h.length := hx
      omega
    · exact h1 (.inr ho)

theorem Sound.newOwn {n s' : Nat} {cs : List PV} {cells : List Value} (ha : r = some (.slice (some ⟨h.length, 0, none⟩) n s', newBlk h cells)) (s : SR M β h t tA) (hl : n * s' = cs.length) (hf : FRs h (NF M β) cs cells) : Sound M β h tA r (.own n s' cs) t :=
  .new ha s rfl fun N hk hg => .inr ⟨h.length, cells, by simp, rfl, hg, hl, hk _ _ hf⟩

/-! ### Scalars -/
theorem scT_ev (s : SR M β h t tA) (x : Operand) : Ev tA x = Ev (scT t) x ∨ Ev (scT t) x = Go.undef := by
  cases x with
  | tmp i =>
    simp only [Ev, scT, scV]
    have := s.tr i
    split
    · rename_i v hv
      rw [hv] at this
      cases this
      exact .inl rfl
    · exact .inr rfl
  | const v => exact .inl rfl
  | global g => exact .inl rfl
  | func f => exact .inl rfl

theorem undef_eq : Go.undef = Value.tuple #[] := rfl

theorem bound_sc (s : SR M β h t tA) {d m r : Nat} {o : Option Operand} (hx : bound (scT t) d m o = some r) : bound tA d m o = some r := by
  cases o with
  | none => exact hx
  | some x =>
    simp only [bound] at hx ⊢
    rcases scT_ev s x with h1 | h1
    · rw [h1]; exact hx
    · rw [h1, undef_eq] at hx; cases hx

theorem two_ok {α : Type} (s : SR M β h t tA) (f : Value → Value → Option α) (h1 : ∀ y, f Go.undef y = none) (h2 : ∀ x, f x Go.undef = none) {x y : Operand} {u : α} (hx : f (Ev (scT t) x) (Ev (scT t) y) = some u) : f (Ev tA x) (Ev tA y) = some u := by
  rcases scT_ev s x with e1 | e1
  · rcases scT_ev s y with e2 | e2
    · rw [e1, e2]; exact hx
    · rw [e2, h2] at hx; cases hx
  · rw [e1, h1] at hx; cases hx

theorem one_ok {α : Type} (s : SR M β h t tA) (f : Value → Option α) (h1 : f Go.undef = none) {x : Operand} {u : α} (hx : f (Ev (scT t) x) = some u) : f (Ev tA x) = some u := by
  rcases scT_ev s x with e1 | e1
  · rw [e1]; exact hx
  · rw [e1, h1] at hx; cases hx

theorem nil_heap {α : Type} {g : Heap → Option (α × Heap)} (hg : ∀ h, g h = (g []).map fun x => (x.1, h)) {v : α} {hh h : Heap} (hx : g [] = some (v, hh)) : g h = some (v, h) := by
  rw [hg h, hx]; rfl

theorem sc_sound (s : SR M β h t tA) {op : AOp} {v : Value} {hh : Heap} (hs : isSc op = true) (hx : aOp op (scT t) [] = some (v, hh)) (hv : scalar v = true) : aOp op tA h = some (v, h) := by
  cases op <;> first | (cases hs; done) | skip
  all_goals simp only [aOp] at hx ⊢
  case pick c a b =>
    have hu : scalar Go.undef = false := rfl
    rcases scT_ev s c with h1 | h1
    · rw [h1]
      split at hx
      · injection hx with hx; injection hx with e1 e2; subst e1
        rcases scT_ev s a with h2 | h2
        · rw [h2]
        · rw [h2, hu] at hv; cases hv
      · injection hx with hx; injection hx with e1 e2; subst e1
        rcases scT_ev s b with h2 | h2
        · rw [h2]
        · rw [h2, hu] at hv; cases hv
      · cases hx
    · rw [h1, undef_eq] at hx; cases hx
  case sliceStr x lo hi =>
    rcases scT_ev s x with h1 | h1
    · rw [h1]
      split at hx
      · rename_i str he
        split at hx
        · rename_i q1 hb1
          split at hx
          · rename_i q2 hb2
            injection hx with hx; injection hx with e1 e2; subst e1
            rw [bound_sc s hb1]; simp only
            rw [bound_sc s hb2]
          · cases hx
        · cases hx
      · cases hx
    · rw [h1, undef_eq] at hx; cases hx
  case bin op x y =>
    rw [Option.map_eq_some_iff] at hx ⊢
    obtain ⟨u, q1, q2⟩ := hx
    injection q2 with e1 e2
    subst e1
    exact ⟨u, two_ok s (aBin op) (fun y => rfl) (fun x => by cases x <;> rfl) q1, rfl⟩
  case binB op x y =>
    rw [Option.map_eq_some_iff] at hx ⊢
    obtain ⟨u, q1, q2⟩ := hx
    injection q2 with e1 e2
    subst e1
    exact ⟨u, two_ok s (aBinB op) (fun y => by cases op <;> rfl) (fun x => by cases op <;> cases x <;> rfl) q1, rfl⟩
  case un op x =>
    rw [Option.map_eq_some_iff] at hx ⊢
    obtain ⟨u, q1, q2⟩ := hx
    injection q2 with e1 e2
    subst e1
    exact ⟨u, one_ok s (aUn op) (by cases op <;> rfl) q1, rfl⟩
  case convInt k x =>
    refine nil_heap (g := fun h => (match Ev tA x with | .int _ n => some (.int k (k.wrap n), h) | _ => none : Option (Value × Heap))) (fun h => ?_) (hh := hh) ?_
    · cases Ev tA x <;> rfl
    · exact one_ok s (fun y => match y with | .int _ n => some (Value.int k (k.wrap n), ([] : Heap)) | _ => none) rfl hx
  case convStr x =>
    refine nil_heap (g := fun h => (match Ev tA x with | .string s => some (.string s, h) | _ => none : Option (Value × Heap))) (fun h => ?_) (hh := hh) ?_
    · cases Ev tA x <;> rfl
    · exact one_ok s (fun y => match y with | .string s => some (Value.string s, ([] : Heap)) | _ => none) rfl hx
  case lenStr x =>
    refine nil_heap (g := fun h => (match Ev tA x with | .string s => some (.int .i64 s.size, h) | _ => none : Option (Value × Heap))) (fun h => ?_) (hh := hh) ?_
    · cases Ev tA x <;> rfl
    · exact one_ok s (fun y => match y with | .string s => some (Value.int .i64 s.size, ([] : Heap)) | _ => none) rfl hx
  case idxStr x y =>
    refine nil_heap (g := fun h => (match Ev tA x, Ev tA y with | .string s, .int _ i => if 0 ≤ i then (s.data.toList[i.toNat]?).map fun b => (.int .u8 b.toNat, h) else none | _, _ => none : Option (Value × Heap))) (fun h => ?_) (hh := hh) ?_
    · cases Ev tA x <;> first | rfl | skip
      cases Ev tA y <;> first | rfl | skip
      simp only
      split
      · rename_i str k i hi
        cases str.data.toList[i.toNat]? <;> rfl
      · rfl
    · exact two_ok s (fun x y => match x, y with | .string s, .int _ i => if 0 ≤ i then (s.data.toList[i.toNat]?).map fun b => (Value.int .u8 b.toNat, ([] : Heap)) else none | _, _ => none) (fun y => rfl) (fun x => by cases x <;> rfl) hx
  case max2 x y =>
    refine nil_heap (g := fun h => (match Ev tA x, Ev tA y with | .int k a, .int _ b => some (.int k (if b > a then b else a), h) | _, _ => none : Option (Value × Heap))) (fun h => ?_) (hh := hh) ?_
    · cases Ev tA x <;> first | rfl | skip
      cases Ev tA y <;> rfl
    · exact two_ok s (fun x y => match x, y with | .int k a, .int _ b => some (Value.int k (if b > a then b else a), ([] : Heap)) | _, _ => none) (fun y => rfl) (fun x => by cases x <;> rfl) hx
  case min2 x y =>
    refine nil_heap (g := fun h => (match Ev tA x, Ev tA y with | .int k a, .int _ b => some (.int k (if b < a then b else a), h) | _, _ => none : Option (Value × Heap))) (fun h => ?_) (hh := hh) ?_
    · cases Ev tA x <;> first | rfl | skip
      cases Ev tA y <;> rfl
    · exact two_ok s (fun x y => match x, y with | .int k a, .int _ b => some (Value.int k (if b < a then b else a), ([] : Heap)) | _, _ => none) (fun y => rfl) (fun x => by cases x <;> rfl) hx
end
end Go.Wb

/- Operations that read, write, make and take over memory. -/
namespace Go.Wb
open Go

section
variable {M : Nat → Prop} {β β1 : Bt} {h h' : Heap} {t t1 : TT} {tA : T} {r : Option (Value × Heap)} {v : TV} {a : Value}

theorem less_nf {X : Nat → Prop} {k : Nat} {keep : Option Nat → Bool} (hX : ∀ b, X b → ∃ k c, β k c = some b) : ∀ b, NF (fun b => M b ∨ X b) (setB β k fun c => if keep c then β k c else none) b → NF M β b := by
  rintro b ((hm | hx) | ⟨k', c, hc⟩)
  · exact .inl hm
  · exact .inr (hX b hx)
  · unfold setB at hc
    split at hc
    · dsimp only at hc
      split at hc
      · exact .inr ⟨_, _, hc⟩
      · cases hc
    · exact .inr ⟨_, _, hc⟩

/-- A root is let go: all its blocks are set aside. -/
theorem SR.dropR (s : SR M β h t tA) (k : Nat) : SR (fun b => M b ∨ ∃ c, β k c = some b) (setB β k fun _ => none) h (setR t k .undef) tA := by
  have h1 := s.set0.drop k (fun _ => false) .undef trivial (kl k) (fun i u a hi hu => kl_tr hi hu)
  have e1 : (fun b => M b ∨ (False ∨ ∃ c, (fun _ : Option Nat => false) c = false ∧ β k c = some b)) = fun b => M b ∨ ∃ c, β k c = some b := by
    funext b; simp
  rw [e1] at h1
  exact h1

theorem Fr.dropR (k : Nat) : Fr β h (setB β k fun _ => none) h := Fr.less fun k' c b hb => by
  unfold setB at hb
  split at hb
  · cases hb
  · exact ⟨_, _, hb⟩

theorem nf_dropR {k : Nat} : ∀ b, NF (fun b => M b ∨ ∃ c, β k c = some b) (setB β k fun _ => none) b → NF M β b := by
  rintro b ((hm | ⟨c, hc⟩) | ⟨k', c, hc⟩)
  · exact .inl hm
  · exact .inr ⟨_, _, hc⟩
  · unfold setB at hc
    split at hc
    · cases hc
    · exact .inr ⟨_, _, hc⟩

theorem move_root (s : SR M β h t tA) {i : Nat} (hi : t i = v) (hr : isRoot v = true) : Sound M β h tA (some (tA i, h)) v (setR t i .undef) := by
  have htr := s.tr i
  rw [hi] at htr
  refine Sound.root (X := fun b => ∃ c, β i c = some b) rfl (Fr.dropR i) (s.dropR i) (β i) (fun c b hb => ⟨⟨c, hb⟩, (s.lt i c b hb).2⟩) (fun c c' b h1 h2 => (s.inj _ _ _ _ _ h1 h2).2) (fun b ⟨c, hc⟩ => .inr ⟨i, c, hc⟩) hr ?_
  refine TRr.keep ?_ (Keeps.less nf_dropR) (fun _ _ _ => rfl)
  cases v <;> first | (cases hr; done) | exact htr

theorem mv_sound (s : SR M β h t tA) {rr : Bool} {ann : List (Nat × Nat)} {x : Operand} (hx : mvW rr ann t x = some (v, t1)) : Sound M β h tA (some (Ev tA x, h)) v t1 := by
  unfold mvW at hx
  split at hx
  · rename_i i
    have htr := s.tr i
    split at hx
    · rename_i n s' cs hi
      split at hx
      · injection hx with hx; injection hx with e1 e2; subst e1 e2
        exact move_root s hi rfl
      · injection hx with hx; injection hx with e1 e2; subst e1 e2
        rw [hi] at htr
        refine Sound.plain rfl Fr.refl s rfl ?_
        rcases htr with ⟨h0, h1, _, h3⟩ | ⟨b, ca, h1, h2, _⟩
        · exact .inl ⟨h0, h1, h3⟩
        · exact .inr ⟨b, h1, h2⟩
    · rename_i cs hi
      split at hx
      · injection hx with hx; injection hx with e1 e2; subst e1 e2
        exact move_root s hi rfl
      · injection hx with hx; injection hx with e1 e2; subst e1 e2
        rw [hi] at htr
        obtain ⟨b, ca, h1, h2, _⟩ := htr
        exact Sound.plain rfl Fr.refl s rfl ⟨b, h1, h2⟩
    · rename_i l hi
      injection hx with hx; injection hx with e1 e2; subst e1 e2
      exact move_root s hi rfl
    · cases hx
    · cases hx
    · rename_i n1 n2 n3 n4 n5
      injection hx with hx; injection hx with e1 e2; subst e1 e2
      have hr : isRoot (t i) = false := by
        cases hti : t i <;> first | rfl | (exfalso; first | exact n1 _ _ _ hti | exact n2 _ hti | exact n3 _ hti | exact n5 _ hti)
      exact Sound.plain rfl Fr.refl s hr (htr.at hr)
  · rename_i c
    split at hx
    · rename_i s' l hn
      injection hx with hx; injection hx with e1 e2; subst e1 e2
      have : c = .slice none 0 0 := by
        unfold isNilS at hn
        split at hn
        · rfl
        · cases hn
      subst this
      exact Sound.root (X := fun _ => False) rfl Fr.refl s.set0 (fun _ => none) (by simp) (by simp) (by simp) rfl (.inl ⟨rfl, rfl, rfl, rfl⟩)
    · split at hx
      · rename_i p hp
        injection hx with hx; injection hx with e1 e2; subst e1 e2
        exact Sound.plain rfl Fr.refl s rfl (pvC_fr hp)
      · cases hx
  · injection hx with hx; injection hx with e1 e2; subst e1 e2
    exact Sound.plain rfl Fr.refl s rfl (FR.sc _ rfl)
  · cases hx

theorem read_one {b off : Nat} {ro : Bool} {ca : List Value} (hb : h[b]? = some (.mem ro ca)) (ho : off < ca.length) : readV h none (.pointer (some ⟨b, off, none⟩)) = some (ca.getD off Go.undef) := by
  simp only [readV, read1, hb]
  exact getD_lt ho

theorem read_many {b off m : Nat} {ro : Bool} {ca : List Value} (hb : h[b]? = some (.mem ro ca)) (ho : off + m ≤ ca.length) : readV h (some m) (.pointer (some ⟨b, off, none⟩)) = some (.agg ((ca.drop off).take m).toArray) := by
  simp only [readV, readN, hb, ho, if_true, Option.map_some]

theorem write_one {b off : Nat} {ca : List Value} {u : Value} (hb : h[b]? = some (.mem false ca)) (ho : off < ca.length) (h1 : u.oneCell' = true) : writeV h none (.pointer (some ⟨b, off, none⟩)) u = some (h.set b (.mem false (ca.set off u))) := by
  simp only [writeV, h1, if_true, write1, hb, ho]

theorem write_many {b off m : Nat} {ca : List Value} {as : Array Value} (hb : h[b]? = some (.mem false ca)) (ho : off + m ≤ ca.length) (h1 : as.size = m) : writeV h (some m) (.pointer (some ⟨b, off, none⟩)) (.agg as) = some (h.set b (.mem false (ca.take off ++ as.toList ++ ca.drop (off + m)))) := by
  have : as.toList.length = m := by rw [Array.length_toList]; exact h1
  simp only [writeV, h1, if_true, writeN, hb, this, ho]

theorem cellP_ok {cs : List PV} {i : Nat} {p : PV} (hx : cellP cs i = some p) : i < cs.length ∧ cs.getD i default = p := by
  unfold cellP at hx
  have := List.getElem?_eq_some_iff.1 hx
  exact ⟨this.1, by rw [List.getD_eq_getElem?_getD, hx]; rfl⟩

theorem cellC_ok {cs : List CV} {i : Nat} {c : CV} (hx : cellC cs i = some c) : i < cs.length ∧ cs.getD i .gone = c := by
  unfold cellC at hx
  have := List.getElem?_eq_some_iff.1 hx
  exact ⟨this.1, by rw [List.getD_eq_getElem?_getD, hx]; rfl⟩

/-- The block that a path into a slice in a box leads to. -/
theorem at_nest (s : SR M β h t tA) {k : Nat} {cs : List CV} (hk : t k = .box cs) {j n s' : Nat} {l : List PV} (hj : cellC cs j = some (.o n s' l)) {b : Nat} (hb : β k (some j) = some b) :
    ∃ ca, h[b]? = some (.mem false ca) ∧ n * s' = l.length ∧ FRs h (NF M β) l ca := by
  have htr := s.tr k
  rw [hk] at htr
  obtain ⟨b0, ca0, g1, g2, g3, g4, g5⟩ := htr
  obtain ⟨hjl, hown⟩ := cell_own g5 hj
  rcases hown with ⟨h1, _⟩ | ⟨b', ca, h1, h2, h3, h4, h5⟩
  · rw [hb] at h1; cases h1
  · rw [hb] at h1; injection h1 with h1; subst h1
    exact ⟨ca, h3, h4, h5⟩

theorem ld1_sound (s : SR M β h t tA) {x : Operand} (hx : ld1 t x = some v) : isRoot v = false ∧ ∃ a, readV h none (Ev tA x) = some a ∧ TR β h (NF M β) 0 v a := by
  unfold ld1 at hx
  split at hx
  · rename_i cs off he
    rw [Option.map_eq_some_iff] at hx
    obtain ⟨p, hp, rfl⟩ := hx
    obtain ⟨h1, h2⟩ := cellP_ok hp
    obtain ⟨b, o, ro, ca, q1, q2, q3, q4, q5⟩ := ev_pf s he
    rw [q1]
    refine ⟨rfl, _, read_one q3 (by omega), ?_⟩
    have := q5 off h1
    rw [h2] at this
    exact this
  · split at hx
    · rename_i k off hp
      obtain ⟨b, hb, ha⟩ := plc_ok s hp
      rw [ha]
      split at hx
      · rename_i cs hk
        obtain ⟨ca, h1, h2, h3, h4⟩ := at_box s hk hb
        split at hx
        · rename_i p hc
          injection hx with hx; subst hx
          obtain ⟨q1, q2⟩ := cellC_ok hc
          refine ⟨rfl, _, read_one h2 (by omega), ?_⟩
          have := h4 off q1
          rw [q2] at this
          exact this
        · rename_i n s' l hc
          injection hx with hx; subst hx
          obtain ⟨q1, q2⟩ := cellC_ok hc
          refine ⟨rfl, _, read_one h2 (by omega), ?_⟩
          have := h4 off q1
          rw [q2] at this
          rcases this with ⟨z0, z1, _, z3⟩ | ⟨b', ca', z1, z2, _⟩
          · exact .inl ⟨z0, z1, z3⟩
          · exact .inr ⟨b', z1, z2⟩
        · cases hx
      · rename_i n s' cs hk
        rw [Option.map_eq_some_iff] at hx
        obtain ⟨p, hp, rfl⟩ := hx
        obtain ⟨q1, q2⟩ := cellP_ok hp
        obtain ⟨ca, h1, h2, h3, h4⟩ := at_own s hk hb
        refine ⟨rfl, _, read_one h2 (by rw [← h4.1]; exact q1), ?_⟩
        have := h4.2 off q1
        rw [q2] at this
        exact this
      · cases hx
    · rename_i k j off hp
      obtain ⟨b, hb, ha⟩ := plc_ok s hp
      rw [ha]
      split at hx
      · rename_i cs hk
        split at hx
        · rename_i n s' l hc
          rw [Option.map_eq_some_iff] at hx
          obtain ⟨p, hp, rfl⟩ := hx
          obtain ⟨q1, q2⟩ := cellP_ok hp
          obtain ⟨ca, h2, h3, h4⟩ := at_nest s hk hc hb
          refine ⟨rfl, _, read_one h2 (by rw [← h4.1]; exact q1), ?_⟩
          have := h4.2 off q1
          rw [q2] at this
          exact this
        · cases hx
      · cases hx
    · cases hx

theorem frs_of {N : Nat → Prop} {l : List PV} {ca : List Value} {off m : Nat} (hl : l.length = m) (hle : off + m ≤ ca.length) (hf : ∀ i, i < m → FR h N (l.getD i default) (ca.getD (off + i) Go.undef)) : FRs h N l ((ca.drop off).take m) := by
  refine ⟨by rw [List.length_take, List.length_drop]; omega, fun i hi => ?_⟩
  rw [take_drop_getD (by omega)]
  exact hf i (by omega)

theorem klC_tr {N : Nat → Prop} {k i : Nat} {q : Option Nat → Option Nat} {v : TV} {a : Value} (hq : q none = β k none) (hi : i ≠ k) (hv : TR β h N i v a) : TR (setB β k q) h N i (klC k v) a := by
  have key : ∀ k' c b, β k' c = some b → (k' = k → c = none) → setB β k q k' c = some b := by
    intro k' c b hb hc
    unfold setB
    split
    · rename_i hk; subst hk
      rw [hc rfl, hq, ← hc rfl]; exact hb
    · exact hb
  cases v with
  | ref k' c off =>
    cases c with
    | none =>
      simp only [klC]
      obtain ⟨b, h1, h2⟩ := hv
      exact ⟨b, key _ _ _ h1 (fun _ => rfl), h2⟩
    | some c =>
      simp only [klC]
      split
      · trivial
      · rename_i hk
        obtain ⟨b, h1, h2⟩ := hv
        exact ⟨b, key _ _ _ h1 (fun e => absurd e hk), h2⟩
  | slc k' c off n s =>
    cases c with
    | none =>
      simp only [klC]
      rcases hv with ⟨h0, hv⟩ | ⟨b, h1, h2⟩
      · refine .inl ⟨?_, hv⟩
        unfold setB
        split
        · rename_i hk; subst hk; rw [hq]; exact h0
        · exact h0
      · exact .inr ⟨b, key _ _ _ h1 (fun _ => rfl), h2⟩
    | some c =>
      simp only [klC]
      split
      · trivial
      · rename_i hk
        rcases hv with ⟨h0, hv⟩ | ⟨b, h1, h2⟩
        · exact .inl ⟨by rw [setB_ne hk]; exact h0, hv⟩
        · exact .inr ⟨b, key _ _ _ h1 (fun e => absurd e hk), h2⟩
  | undef => trivial
  | skip => exact hv
  | val p => exact hv
  | pf cs off => exact hv
  | own n s cs => simp only [klC, TR] at hv ⊢; rw [setB_ne hi]; exact hv
  | box cs => simp only [klC, TR] at hv ⊢; rw [setB_ne hi]; exact hv
  | tup l => simp only [klC, TR] at hv ⊢; rw [setB_ne hi]; exact hv
  | hbox l => simp only [klC, TR] at hv ⊢; rw [setB_ne hi]; exact hv
  | clo f caps =>
    obtain ⟨as, h1, h2, h3⟩ := hv
    refine ⟨as, h1, h2, fun j hj => ?_⟩
    have := h3 j hj
    cases hc : caps.getD j (.inl 0) with
    | inr p => rw [hc] at this; exact this
    | inl k' =>
      rw [hc] at this
      obtain ⟨b, q1, q2⟩ := this
      exact ⟨b, key _ _ _ q1 (fun _ => rfl), q2⟩

theorem klC_same {N : Nat → Prop} {k i : Nat} {v : TV} {a : Value} (hi : i ≠ k) (hv : TR β h N i v a) : TR β h N i (klC k v) a := by
  have := klC_tr (q := β k) rfl hi hv
  have e : setB β k (β k) = β := by
    funext k' c
    unfold setB
    split
    · rename_i hk; rw [hk]
    · rfl
  rwa [e] at this

theorem frz_cvr {β' : Option Nat → Option Nat} {N : Nat → Prop} {j : Nat} {c : CV} {a : Value} (hN : ∀ b, β' (some j) = some b → N b) (hc : CVR β' h N j c a) : ∀ N', (∀ b ro ca, ¬ N b → h[b]? = some (Blk.mem ro ca) → ¬ N' b) → (∀ b, β' (some j) = some b → ¬ N' b) → CVR (fun _ => none) h N' j (frz c) a := by
  intro N' h1 h2
  have hk : Keeps h N h N' := fun b ro ca q1 q2 => ⟨h1 b ro ca q1 q2, q2⟩
  cases c with
  | v p => exact FR.keep hc hk
  | gone => trivial
  | o n s cs =>
    rcases hc with ⟨_, rfl, rfl, rfl⟩ | ⟨b, ca, e1, rfl, e3, e4, e5⟩
    · exact FR.slNil
    · refine FR.sl n s cs b 0 false ca (h2 b e1) e3 e4 (by rw [e5.1]; omega) fun i hi => ?_
      rw [Nat.zero_add]
      exact (e5.2 i hi).keep hk

theorem ldN_sound (s : SR M β h t tA) {m : Nat} {x : Operand} (hx : ldN m t x = some (v, t1)) : Sound M β h tA ((readV h (some m) (Ev tA x)).map fun a => (a, h)) v t1 := by
  unfold ldN at hx
  split at hx
  · rename_i cs off he
    split at hx
    · rename_i hle
      injection hx with hx; injection hx with e1 e2; subst e1 e2
      obtain ⟨b, o, ro, ca, q1, q2, q3, q4, q5⟩ := ev_pf s he
      rw [q1]
      refine Sound.plain (by rw [read_many q3 (by omega)]; rfl) Fr.refl s rfl (frs_agg (frs_of (by rw [List.length_take, List.length_drop]; omega) (by omega) fun i hi => ?_))
      rw [take_drop_getD hi]
      have := q5 (off + i) (by omega)
      rwa [← Nat.add_assoc] at this
    · cases hx
  · split at hx
    · rename_i k off hp
      obtain ⟨b, hb, ha⟩ := plc_ok s hp
      rw [ha]
      split at hx
      · rename_i cs hk
        obtain ⟨ca, h1, h2, h3, h4⟩ := at_box s hk hb
        split at hx
        · rename_i hle
          split at hx
          · rw [Option.map_eq_some_iff] at hx
            obtain ⟨l, hl, hx⟩ := hx
            injection hx with e1 e2; subst e1 e2
            obtain ⟨q1, q2⟩ := unv_fr h3 h4 hle hl
            exact Sound.plain (by rw [read_many h2 (by omega)]; rfl) Fr.refl s rfl (frs_agg (frs_of q1 (by omega) q2))
          · rw [Option.map_eq_some_iff] at hx
            obtain ⟨l, hl, hx⟩ := hx
            injection hx with e1 e2; subst e1 e2
            -- all slices of one's own in the box are let go
            have hN : ∀ j b', β k (some j) = some b' → NF M β b' := fun j b' hb' => .inr ⟨k, some j, hb'⟩
            let N' := NF (fun b => M b) (setB β k fun c => if c.isNone then β k c else none)
            have hN1 : ∀ b' ro ca', ¬ NF M β b' → h[b']? = some (Blk.mem ro ca') → ¬ N' b' := by
              intro b' _ _ q1 _ q2
              refine q1 ?_
              rcases q2 with q2 | ⟨k', c, q2⟩
              · exact .inl q2
              · unfold setB at q2
                split at q2
                · dsimp only at q2
                  split at q2
                  · exact .inr ⟨_, _, q2⟩
                  · cases q2
                · exact .inr ⟨_, _, q2⟩
            have hN2 : ∀ j b', β k (some j) = some b' → ¬ N' b' := by
              intro j b' hb' q2
              rcases q2 with q2 | ⟨k', c, q2⟩
              · exact (s.lt _ _ _ hb').2 q2
              · unfold setB at q2
                split at q2
                · rename_i hkk; subst hkk
                  dsimp only at q2
                  split at q2
                  · rename_i hc
                    have := (s.inj _ _ _ _ _ hb' q2).2
                    subst this
                    simp at hc
                  · cases q2
                · rename_i hkk
                  exact hkk (s.inj _ _ _ _ _ hb' q2).1.symm
            have hcv : ∀ j, j < (cs.map frz).length → CVR (fun _ => none) h N' j ((cs.map frz).getD j .gone) (ca.getD j Go.undef) := by
              intro j hj
              rw [List.length_map] at hj
              have e : (cs.map frz).getD j .gone = frz (cs.getD j .gone) := by simp [List.getD, hj]
              rw [e]
              exact frz_cvr (hN j) (h4 j hj) N' hN1 (hN2 j)
            have hcv2 : ∀ (γ : Option Nat → Option Nat) j, j < (cs.map frz).length → CVR γ h N' j ((cs.map frz).getD j .gone) (ca.getD j Go.undef) := by
              intro γ j hj
              have q := hcv j hj
              rw [List.length_map] at hj
              have e : (cs.map frz).getD j .gone = frz (cs.getD j .gone) := by simp [List.getD, hj]
              rw [e] at q ⊢
              cases hcj : cs.getD j .gone <;> rw [hcj] at q <;> exact q
            have hs : SR M (setB β k fun c => if c.isNone then β k c else none) h (setC t k (.box (cs.map frz))) tA := by
              have := s.set0.drop k (fun c => c.isNone) .undef trivial (klC k) (fun i u a hi hu => klC_tr (by simp) hi hu)
              have := this.weak
              have h5 := this.upd (d := k) (v := .box (cs.map frz)) (a := tA k) ⟨b, ca, by rw [setB_same]; simpa using hb, h1, h2, by simpa using h3, hcv2 _⟩
              have e1 : Go.Wb.upd tA k (tA k) = tA := by funext i; unfold Go.Wb.upd; split <;> simp_all
              rw [e1] at h5
              have e2 : updT (fun i => if i = k then TV.undef else klC k (t i)) k (.box (cs.map frz)) = setC t k (.box (cs.map frz)) := by
                funext i; unfold updT setC; split <;> simp_all
              rw [e2] at h5
              exact h5
            obtain ⟨q1, q2⟩ := unv_fr (cs := cs.map frz) (by simpa using h3) hcv (by simpa using hle) hl
            refine Sound.plain (by rw [read_many h2 (by omega)]; rfl) (Fr.less fun k' c b' hb' => ?_) hs rfl (frs_agg (frs_of q1 (by omega) q2))
            unfold setB at hb'
            split at hb'
            · dsimp only at hb'
              split at hb'
              · exact ⟨_, _, hb'⟩
              · cases hb'
            · exact ⟨_, _, hb'⟩
        · cases hx
      · rename_i n s' cs hk
        obtain ⟨ca, h1, h2, h3, h4⟩ := at_own s hk hb
        split at hx
        · rename_i hle
          injection hx with hx; injection hx with e1 e2; subst e1 e2
          have hl := h4.1
          exact Sound.plain (by rw [read_many h2 (by omega)]; rfl) Fr.refl s rfl (frs_agg (frs_take (frs_drop h4 off) m))
        · cases hx
      · cases hx
    · cases hx

end
end Go.Wb

/- Operations that write, append, copy. -/
namespace Go.Wb
open Go

section
variable {M : Nat → Prop} {β β1 : Bt} {h h' : Heap} {t t1 : TT} {tA : T} {r : Option (Value × Heap)} {v : TV} {a : Value}

theorem get_set_same {b : Nat} {x y : Blk} (hb : h[b]? = some y) : (h.set b x)[b]? = some x := by
  rw [List.getElem?_set_self (get_lt hb)]

theorem updT_eq {k : Nat} {u : TV} : updT t k u = fun i => if i = k then u else id (t i) := rfl
theorem setC_eq {k : Nat} {u : TV} : setC t k u = fun i => if i = k then u else klC k (t i) := rfl

theorem cvr_set {β' : Option Nat → Option Nat} {N : Nat → Prop} {cs : List CV} {ca : List Value} {j : Nat} {c : CV} {u : Value} (hl : cs.length = ca.length) (hc : ∀ i, i < cs.length → CVR β' h N i (cs.getD i .gone) (ca.getD i Go.undef)) (hn : CVR β' h N j c u) :
    ∀ i, i < (cs.set j c).length → CVR β' h N i ((cs.set j c).getD i .gone) ((ca.set j u).getD i Go.undef) := by
  intro i hi
  rw [List.length_set] at hi
  simp only [List.getD_eq_getElem?_getD, List.getElem?_set]
  by_cases h1 : j = i
  · subst h1
    rw [if_pos rfl, if_pos hi, if_pos rfl, if_pos (by rw [← hl]; exact hi)]
    exact hn
  · rw [if_neg h1, if_neg h1]
    simpa [List.getD_eq_getElem?_getD] using hc i hi

theorem cvr_set1 {β' : Option Nat → Option Nat} {N : Nat → Prop} {cs : List CV} {ca : List Value} {j : Nat} {c : CV} (hc : ∀ i, i < cs.length → CVR β' h N i (cs.getD i .gone) (ca.getD i Go.undef)) (hn : CVR β' h N j c (ca.getD j Go.undef)) :
    ∀ i, i < (cs.set j c).length → CVR β' h N i ((cs.set j c).getD i .gone) (ca.getD i Go.undef) := by
  intro i hi
  rw [List.length_set] at hi
  simp only [List.getD_eq_getElem?_getD, List.getElem?_set]
  by_cases h1 : j = i
  · subst h1
    rw [if_pos rfl, if_pos hi]
    simpa [List.getD_eq_getElem?_getD] using hn
  · rw [if_neg h1]
    simpa [List.getD_eq_getElem?_getD] using hc i hi

theorem frs_splice {N : Nat → Prop} {cs new : List PV} {ca na : List Value} {off : Nat} (hf : FRs h N cs ca) (hn : FRs h N new na) : FRs h N (cs.take off ++ new ++ cs.drop (off + new.length)) (ca.take off ++ na ++ ca.drop (off + na.length)) := by
  rw [← hn.1]
  exact frs_append (frs_append (frs_take hf off) hn) (frs_drop hf _)

/-- Values spliced into a box's cells. -/
theorem cvr_splice {β' : Option Nat → Option Nat} {N : Nat → Prop} {cs : List CV} {ca na : List Value} {new : List PV} {off : Nat} (hl : cs.length = ca.length) (hc : ∀ i, i < cs.length → CVR β' h N i (cs.getD i .gone) (ca.getD i Go.undef)) (hn : FRs h N new na)
    (hle : off + new.length ≤ cs.length) : (cs.take off ++ new.map CV.v ++ cs.drop (off + new.length)).length = (ca.take off ++ na ++ ca.drop (off + na.length)).length ∧
    ∀ i, i < (cs.take off ++ new.map CV.v ++ cs.drop (off + new.length)).length → CVR β' h N i ((cs.take off ++ new.map CV.v ++ cs.drop (off + new.length)).getD i .gone) ((ca.take off ++ na ++ ca.drop (off + na.length)).getD i Go.undef) := by
  have hnl := hn.1
  refine ⟨by simp only [List.length_append, List.length_take, List.length_drop, List.length_map]; omega, fun i hi => ?_⟩
  have hi' : i < cs.length := by simp only [List.length_append, List.length_take, List.length_drop, List.length_map] at hi; omega
  have ha1 : (cs.take off).length = off := by rw [List.length_take]; omega
  have ha2 : (ca.take off).length = off := by rw [List.length_take]; omega
  simp only [List.getD_eq_getElem?_getD, List.append_assoc]
  rcases Nat.lt_or_ge i off with h1 | h1
  · rw [List.getElem?_append_left (by omega), List.getElem?_append_left (by omega), List.getElem?_take, List.getElem?_take, if_pos h1, if_pos h1]
    simpa [List.getD_eq_getElem?_getD] using hc i hi'
  · rw [List.getElem?_append_right (l₁ := cs.take off) (by omega), List.getElem?_append_right (l₁ := ca.take off) (by omega), ha1, ha2]
    rcases Nat.lt_or_ge (i - off) new.length with h2 | h2
    · rw [List.getElem?_append_left (by rw [List.length_map]; exact h2), List.getElem?_append_left (by omega)]
      have := hn.2 (i - off) h2
      rw [List.getElem?_map, List.getElem?_eq_getElem h2]
      simp only [List.getD_eq_getElem?_getD, List.getElem?_eq_getElem h2, Option.getD_some] at this
      exact this
    · rw [List.getElem?_append_right (by rw [List.length_map]; exact h2), List.getElem?_append_right (by omega), List.length_map, List.getElem?_drop, List.getElem?_drop, ← hnl]
      have e : off + new.length + (i - off - new.length) = i := by omega
      rw [e]
      simpa [List.getD_eq_getElem?_getD] using hc i hi'

/-- A box is written. -/
theorem write_box (s : SR M β h t tA) {k b : Nat} {cs cs' : List CV} {ca ca' : List Value} (hk : t k = .box cs) (hb : β k none = some b) (hg : h[b]? = some (.mem false ca)) (hta : tA k = .pointer (some ⟨b, 0, none⟩)) (hl : cs'.length = ca'.length)
    (hc : ∀ i, i < cs'.length → CVR (β k) h (NF M β) i (cs'.getD i .gone) (ca'.getD i Go.undef)) (f : TV → TV) (hf : ∀ i u a, i ≠ k → TR β h (NF M β) i u a → TR β h (NF M β) i (f u) a) :
    SR M β (h.set b (.mem false ca')) (fun i => if i = k then .box cs' else f (t i)) tA := by
  refine s.write (c := none) hb _ f hf fun h' he hkp => ?_
  subst he
  refine ⟨b, ca', hb, hta, get_set_same hg, hl, fun j hj => (hc j hj).keep hkp fun b' hb' => ?_⟩
  have hne : b ≠ b' := fun he => by
    subst he
    have := (s.inj _ _ _ _ _ hb hb').2
    cases this
  rw [List.getElem?_set_ne hne]

theorem write_own (s : SR M β h t tA) {k b n s' : Nat} {cs cs' : List PV} {ca ca' : List Value} (hk : t k = .own n s' cs) (hb : β k none = some b) (hg : h[b]? = some (.mem false ca)) (hta : tA k = .slice (some ⟨b, 0, none⟩) n s') (hl : n * s' = cs'.length)
    (hc : FRs h (NF M β) cs' ca') : SR M β (h.set b (.mem false ca')) (updT t k (.own n s' cs')) tA := by
  refine s.write (c := none) hb _ id (fun _ _ _ _ hu => hu) fun h' he hkp => ?_
  subst he
  exact .inr ⟨b, ca', hb, hta, get_set_same hg, hl, hc.keep hkp⟩

/-- A slice of one's own in a box is written. -/
theorem write_nest (s : SR M β h t tA) {k b j n s' : Nat} {bs : List CV} {cs cs' : List PV} {ca ca' : List Value} (hk : t k = .box bs) (hj : cellC bs j = some (.o n s' cs)) (hb : β k (some j) = some b) (hg : h[b]? = some (.mem false ca)) (hl : n * s' = cs'.length)
    (hc : FRs h (NF M β) cs' ca') : SR M β (h.set b (.mem false ca')) (updT t k (.box (bs.set j (.o n s' cs')))) tA := by
  have htr := s.tr k
  rw [hk] at htr
  obtain ⟨b0, ca0, g1, g2, g3, g4, g5⟩ := htr
  have hne : b ≠ b0 := fun he => by
    subst he
    have := (s.inj _ _ _ _ _ hb g1).2
    cases this
  refine s.write hb _ id (fun _ _ _ _ hu => hu) fun h' he hkp => ?_
  subst he
  refine ⟨b0, ca0, g1, g2, by rw [List.getElem?_set_ne hne]; exact g3, by rw [List.length_set]; exact g4, fun i hi => ?_⟩
  rw [List.length_set] at hi
  obtain ⟨hjl, hown⟩ := cell_own g5 hj
  simp only [List.getD_eq_getElem?_getD, List.getElem?_set]
  by_cases h1 : j = i
  · subst h1
    rw [if_pos rfl, if_pos hi]
    rcases hown with ⟨h1, _⟩ | ⟨b', ca', h1, h2, h3, h4, h5⟩
    · rw [hb] at h1; cases h1
    · rw [hb] at h1; injection h1 with h1; subst h1
      exact .inr ⟨b, _, hb, by simpa [List.getD_eq_getElem?_getD] using h2, get_set_same hg, hl, hc.keep hkp⟩
  · rw [if_neg h1]
    have := g5 i hi
    simp only [List.getD_eq_getElem?_getD] at this
    refine this.keep hkp fun b' hb' => ?_
    have hne2 : b ≠ b' := fun he => by
      subst he
      have := (s.inj _ _ _ _ _ hb hb').2
      injection this with this
      exact h1 this
    rw [List.getElem?_set_ne hne2]

theorem upd_self {k : Nat} : Go.Wb.upd tA k (tA k) = tA := by funext i; unfold Go.Wb.upd; split <;> simp_all

/-- A key in a box gets a block that was set aside. -/
theorem SR.nest {X : Nat → Prop} (s : SR (fun b => M b ∨ X b) β h t tA) {k j : Nat} {cs : List CV} {ob : Option Nat} {n s' : Nat} {l : List PV} (hk : t k = .box cs) (hj : j < cs.length) (ho : ∀ b, ob = some b → X b ∧ ¬ M b)
    (hown : ∀ ca b, β k none = some b → h[b]? = some (Blk.mem false ca) → OwnAt h (NF (fun b => M b ∨ X b) β) ob n s' l (ca.getD j Go.undef)) :
    SR M (setB β k fun c => if c = some j then ob else β k c) h (setC t k (.box (cs.set j (.o n s' l)))) tA := by
  have htr := s.tr k
  rw [hk] at htr
  obtain ⟨b0, ca0, g1, g2, g3, g4, g5⟩ := htr
  have hless : ∀ b, NF M (setB β k fun c => if c = some j then ob else β k c) b → NF (fun b => M b ∨ X b) β b := by
    rintro b (hb | ⟨k', c, hb⟩)
    · exact .inl (.inl hb)
    · unfold setB at hb
      split at hb
      · dsimp only at hb
        split at hb
        · exact .inl (.inr (ho b hb).1)
        · exact .inr ⟨_, _, hb⟩
      · exact .inr ⟨_, _, hb⟩
  have hor : ∀ k' c b, setB β k (fun c => if c = some j then ob else β k c) k' c = some b → (k' = k ∧ c = some j ∧ ob = some b) ∨ (¬ (k' = k ∧ c = some j) ∧ β k' c = some b) := by
    intro k' c b hb
    unfold setB at hb
    split at hb
    · rename_i hkk
      dsimp only at hb
      split at hb
      · exact .inl ⟨hkk, by assumption, hb⟩
      · refine .inr ⟨fun hc => by simp_all, by rw [hkk]; exact hb⟩
    · rename_i hkk
      exact .inr ⟨fun hc => hkk hc.1, hb⟩
  refine ⟨fun i => ?_, ?_, ?_, fun b hb => s.mlt b (.inl hb)⟩
  · unfold setC
    split
    · rename_i hi; subst hi
      refine ⟨b0, ca0, by rw [setB_same]; simpa using g1, g2, g3, by rw [List.length_set]; exact g4, ?_⟩
      rw [setB_same]
      have g6 : ∀ i', i' < cs.length → i' ≠ j → CVR (fun c => if c = some j then ob else β i c) h (NF M (setB β i fun c => if c = some j then ob else β i c)) i' (cs.getD i' .gone) (ca0.getD i' Go.undef) := by
        intro i' hi' hne
        have q := (g5 i' hi').keep (Keeps.less hless) (fun _ _ => rfl)
        have e : (if some i' = some j then ob else β i (some i')) = β i (some i') := by rw [if_neg (by simpa using hne)]
        cases hci : cs.getD i' .gone with
        | v p => rw [hci] at q; exact q
        | gone => trivial
        | o n s cs => rw [hci] at q; simp only [CVR] at q ⊢; rw [e]; exact q
      intro i' hi'
      rw [List.length_set] at hi'
      by_cases h1 : j = i'
      · subst h1
        have e : (cs.set j (.o n s' l)).getD j .gone = .o n s' l := by simp [List.getD, hi']
        rw [e]
        simp only [CVR, if_true]
        exact (hown ca0 b0 g1 g3).keep (Keeps.less hless) (fun _ _ => rfl)
      · have e : (cs.set j (.o n s' l)).getD i' .gone = cs.getD i' .gone := by simp only [List.getD_eq_getElem?_getD, List.getElem?_set_ne h1]
        rw [e]
        exact g6 i' hi' (Ne.symm h1)
    · rename_i hi
      exact (klC_tr (by simp) hi (s.tr i)).keep (Keeps.less hless) (fun _ _ _ => rfl)
  · intro k1 c1 k2 c2 b h1 h2
    rcases hor _ _ _ h1 with ⟨e1, e2, e3⟩ | ⟨e1, e3⟩ <;> rcases hor _ _ _ h2 with ⟨d1, d2, d3⟩ | ⟨d1, d3⟩
    · exact ⟨by rw [e1, d1], by rw [e2, d2]⟩
    · exact absurd (.inr (ho b e3).1) (s.lt _ _ _ d3).2
    · exact absurd (.inr (ho b d3).1) (s.lt _ _ _ e3).2
    · exact s.inj _ _ _ _ _ e3 d3
  · intro k' c b hb
    rcases hor _ _ _ hb with ⟨_, _, e3⟩ | ⟨_, e3⟩
    · exact ⟨s.mlt b (.inr (ho b e3).1), (ho b e3).2⟩
    · exact ⟨(s.lt _ _ _ e3).1, fun hm => (s.lt _ _ _ e3).2 (.inl hm)⟩

theorem fr_set {k b : Nat} {c : Option Nat} {x : Blk} (hb : β k c = some b) (hsub : ∀ k' c' b', β1 k' c' = some b' → ∃ k c, β k c = some b') : Fr β h β1 (h.set b x) :=
  (Fr.write hb).trans ⟨Nat.le_refl _, fun _ _ _ => rfl, fun k c b hk => .inr (hsub k c b hk)⟩

theorem st1_sound (s : SR M β h t tA) {x y : Operand} (hx : st1 t x y = some t1) : Sound M β h tA ((writeV h none (Ev tA x) (Ev tA y)).map fun h' => (Go.undef, h')) .undef t1 := by
  have key : ∀ {b : Nat} {ca ca' : List Value} {k : Nat} {c : Option Nat}, β k c = some b → writeV h none (Ev tA x) (Ev tA y) = some (h.set b (.mem false ca')) → SR M β (h.set b (.mem false ca')) t1 tA → Sound M β h tA ((writeV h none (Ev tA x) (Ev tA y)).map fun h' => (Go.undef, h')) .undef t1 := by
    intro b ca ca' k c hb hw hs
    exact Sound.plain (by rw [hw]; rfl) (Fr.write hb) hs rfl trivial
  unfold st1 at hx
  split at hx
  · rename_i k off hp
    obtain ⟨b, hb, ha⟩ := plc_ok s hp
    split at hx
    · cases hx
    · rename_i cs p hpa hk hy
      obtain ⟨ca, h1, h2, h3, h4⟩ := at_box s hk hb
      have hfp := ev_val s hy
      obtain ⟨o1, o2, o3⟩ := fr_one hfp (fun cs e => hpa cs e)
      split at hx
      · rename_i q hc
        injection hx with hx; subst hx
        obtain ⟨q1, q2⟩ := cellC_ok hc
        refine key (ca := ca) hb (by rw [ha]; exact write_one h2 (by omega) o1) ?_
        rw [updT_eq]
        exact write_box s hk hb h2 h1 (by simpa using h3) (cvr_set h3 h4 (c := .v p) hfp) id (fun _ _ _ _ hu => hu)
      · rename_i q hne hc
        injection hx with hx; subst hx
        obtain ⟨q1, q2⟩ := cellC_ok hc
        refine key (ca := ca) hb (by rw [ha]; exact write_one h2 (by omega) o1) ?_
        rw [setC_eq]
        exact write_box s hk hb h2 h1 (by simpa using h3) (cvr_set h3 h4 (c := .v p) hfp) (klC k) (fun i u a hi hu => klC_same hi hu)
      · cases hx
    · rename_i cs n s' l hk hy
      obtain ⟨ca, h1, h2, h3, h4⟩ := at_box s hk hb
      split at hx
      · rename_i j
        split at hx
        · rename_i hc
          injection hx with hx; subst hx
          obtain ⟨j', hj', htj, hown⟩ := ev_own s hy
          injection hj' with hj'
          subst hj'
          have o1 : (tA j).oneCell' = true := by
            rcases hown with ⟨_, _, _, e⟩ | ⟨_, _, _, e, _⟩ <;> rw [e] <;> rfl
          -- the slice is let go; the box is written; the key gets the block
          have s1 := s.dropR j
          have hkj : k ≠ j := Ne.symm hc.2
          have hbk : setB β j (fun _ => none) k none = some b := by rw [setB_ne hkj]; exact hb
          have hk1 : setR t j .undef k = .box cs := by unfold setR; rw [if_neg hkj, hk]; rfl
          obtain ⟨ca', _, h2', h3', h4'⟩ := at_box s1 hk1 hbk
          rw [h2] at h2'; injection h2' with h2'; injection h2' with _ h2'; subst h2'
          have s2 := write_box (cs' := cs.set off .gone) (ca' := ca.set off (tA j)) s1 hk1 hbk h2 h1 (by simpa using h3) (cvr_set h3 h4' trivial) id (fun _ _ _ _ hu => hu)
          have hg : (h.set b (.mem false (ca.set off (tA j))))[b]? = some (Blk.mem false (ca.set off (tA j))) := get_set_same h2
          have s3 := s2.nest (k := k) (j := off) (cs := cs.set off .gone) (ob := β j none) (n := n) (s' := s') (l := l) (by simp) (by simpa using hc.1)
            (fun b' hb' => ⟨⟨none, hb'⟩, (s.lt _ _ _ hb').2⟩) (by
              intro ca2 b2 hb2 hg2
              rw [hbk] at hb2; injection hb2 with hb2; subst hb2
              rw [hg] at hg2; injection hg2 with hg2; injection hg2 with _ hg2; subst hg2
              have e : (ca.set off (tA j)).getD off Go.undef = tA j := by
                rw [List.getD_eq_getElem?_getD, List.getElem?_set_self (by omega)]; rfl
              rw [e]
              refine OwnAt.keep hown ?_ fun b' hb' => ?_
              · intro b' ro' ca'' q1 q2
                refine ⟨fun hn => q1 (nf_dropR _ hn), ?_⟩
                have hne : b ≠ b' := fun he => q1 (.inr ⟨k, none, he ▸ hb⟩)
                rw [List.getElem?_set_ne hne]; exact q2
              · have hne : b ≠ b' := fun he => hkj (s.inj _ _ _ _ _ hb (he ▸ hb')).1
                rw [List.getElem?_set_ne hne])
          refine Sound.plain (by rw [ha]; simp only [Ev]; rw [write_one h2 (by omega) o1]; rfl) (fr_set hb ?_) ?_ rfl trivial (β1 := setB (setB β j fun _ => none) k fun c => if c = some off then β j none else setB β j (fun _ => none) k c)
          · intro k' c' b' hb'
            unfold setB at hb'
            split at hb'
            · dsimp only at hb'
              split at hb'
              · exact ⟨_, _, hb'⟩
              · try dsimp only at hb'
                first
                | exact ⟨_, _, hb'⟩
                | (split at hb'
                   · cases hb'
                   · exact ⟨_, _, hb'⟩)
            · try dsimp only at hb'
              first
              | exact ⟨_, _, hb'⟩
              | (split at hb'
                 · cases hb'
                 · exact ⟨_, _, hb'⟩)
          · have e1 : (setC (fun i => if i = k then TV.box (cs.set off .gone) else id (setR t j .undef i)) k (.box ((cs.set off .gone).set off (.o n s' l)))) = setC (setR t j .undef) k (.box (cs.set off (.o n s' l))) := by
              funext i
              unfold setC
              split
              · rw [List.set_set]
              · rename_i hi
                simp only [if_neg hi, id]
            rw [e1] at s3
            exact s3
        · cases hx
      · cases hx
    · cases hx
    · rename_i n s' cs p hpa hk hy
      obtain ⟨ca, h1, h2, h3, h4⟩ := at_own s hk hb
      have hfp := ev_val s hy
      obtain ⟨o1, o2, o3⟩ := fr_one hfp (fun cs e => hpa cs e)
      split at hx
      · rename_i hlt
        injection hx with hx; subst hx
        refine key (ca := ca) hb (by rw [ha]; exact write_one h2 (by rw [← h4.1]; exact hlt) o1) ?_
        exact write_own s hk hb h2 h1 (by simpa using h3) (frs_set h4 hfp)
      · cases hx
    · cases hx
  · rename_i k j off hp
    obtain ⟨b, hb, ha⟩ := plc_ok s hp
    split at hx
    · cases hx
    · rename_i cs p hpa hk hy
      have hfp := ev_val s hy
      obtain ⟨o1, o2, o3⟩ := fr_one hfp (fun cs e => hpa cs e)
      split at hx
      · rename_i n s' l hc
        split at hx
        · rename_i hlt
          injection hx with hx; subst hx
          obtain ⟨ca, h2, h3, h4⟩ := at_nest s hk hc hb
          refine key (ca := ca) hb (by rw [ha]; exact write_one h2 (by rw [← h4.1]; exact hlt) o1) ?_
          exact write_nest s hk hc hb h2 (by simpa using h3) (frs_set h4 hfp)
        · cases hx
      · cases hx
    · cases hx
  · cases hx

theorem stN_sound (s : SR M β h t tA) {m : Nat} {x y : Operand} (hx : stN m t x y = some t1) : Sound M β h tA ((writeV h (some m) (Ev tA x) (Ev tA y)).map fun h' => (Go.undef, h')) .undef t1 := by
  have key : ∀ {b : Nat} {ca' : List Value} {k : Nat} {c : Option Nat}, β k c = some b → writeV h (some m) (Ev tA x) (Ev tA y) = some (h.set b (.mem false ca')) → SR M β (h.set b (.mem false ca')) t1 tA → Sound M β h tA ((writeV h (some m) (Ev tA x) (Ev tA y)).map fun h' => (Go.undef, h')) .undef t1 := by
    intro b ca' k c hb hw hs
    exact Sound.plain (by rw [hw]; rfl) (Fr.write hb) hs rfl trivial
  unfold stN at hx
  split at hx
  · rename_i k off ps hp hy
    obtain ⟨b, hb, ha⟩ := plc_ok s hp
    obtain ⟨as, hya, hfa⟩ := fr_agg (ev_val s hy)
    split at hx
    · rename_i hpl
      have hsz : as.size = m := by rw [← hpl, hfa.1, Array.length_toList]
      have hal : as.toList.length = m := by rw [Array.length_toList]; exact hsz
      split at hx
      · rename_i cs hk
        obtain ⟨ca, h1, h2, h3, h4⟩ := at_box s hk hb
        split at hx
        · rename_i hle
          have hw : writeV h (some m) (Ev tA x) (Ev tA y) = some (h.set b (.mem false (ca.take off ++ as.toList ++ ca.drop (off + m)))) := by rw [ha, hya]; exact write_many h2 (by omega) hsz
          obtain ⟨c1, c2⟩ := cvr_splice (off := off) h3 h4 hfa (by omega)
          rw [hal, hpl] at c1 c2
          split at hx
          · injection hx with hx; subst hx
            refine key hb hw ?_
            rw [updT_eq]
            exact write_box s hk hb h2 h1 c1 c2 id (fun _ _ _ _ hu => hu)
          · injection hx with hx; subst hx
            refine key hb hw ?_
            rw [setC_eq]
            exact write_box s hk hb h2 h1 c1 c2 (klC k) (fun i u a hi hu => klC_same hi hu)
        · cases hx
      · rename_i n s' cs hk
        obtain ⟨ca, h1, h2, h3, h4⟩ := at_own s hk hb
        split at hx
        · rename_i hle
          injection hx with hx; subst hx
          have hw : writeV h (some m) (Ev tA x) (Ev tA y) = some (h.set b (.mem false (ca.take off ++ as.toList ++ ca.drop (off + m)))) := by rw [ha, hya]; exact write_many h2 (by rw [← h4.1]; exact hle) hsz
          have c1 := frs_splice (off := off) h4 hfa
          rw [hal, hpl] at c1
          refine key hb hw (write_own s hk hb h2 h1 ?_ c1)
          rw [h3]
          simp only [List.length_append, List.length_take, List.length_drop]
          omega
        · cases hx
      · cases hx
    · cases hx
  · rename_i k j off ps hp hy
    obtain ⟨b, hb, ha⟩ := plc_ok s hp
    obtain ⟨as, hya, hfa⟩ := fr_agg (ev_val s hy)
    split at hx
    · rename_i hpl
      have hsz : as.size = m := by rw [← hpl, hfa.1, Array.length_toList]
      have hal : as.toList.length = m := by rw [Array.length_toList]; exact hsz
      split at hx
      · rename_i cs hk
        split at hx
        · rename_i n s' l hc
          obtain ⟨ca, h2, h3, h4⟩ := at_nest s hk hc hb
          split at hx
          · rename_i hle
            injection hx with hx; subst hx
            have hw : writeV h (some m) (Ev tA x) (Ev tA y) = some (h.set b (.mem false (ca.take off ++ as.toList ++ ca.drop (off + m)))) := by rw [ha, hya]; exact write_many h2 (by rw [← h4.1]; exact hle) hsz
            have c1 := frs_splice (off := off) h4 hfa
            rw [hal, hpl] at c1
            refine key hb hw (write_nest s hk hc hb h2 ?_ c1)
            rw [h3]
            simp only [List.length_append, List.length_take, List.length_drop]
            omega
          · cases hx
        · cases hx
      · cases hx
    · cases hx
  · cases hx

end
end Go.Wb

/- Append, copy, paths; and all operations together. -/
namespace Go.Wb
open Go

section
variable {M : Nat → Prop} {β β1 : Bt} {h h' : Heap} {t t1 : TT} {tA : T} {r : Option (Value × Heap)} {v : TV} {a : Value}

/-- A slice of one's own is taken out of where it stood. -/
structure Taken (M : Nat → Prop) (β : Bt) (h : Heap) (tA : T) (n s : Nat) (cs : List PV) (t' : TT) (a : Value) (X : Nat → Prop) (β1 : Bt) (ob : Option Nat) : Prop where
  sr : SR (fun b => M b ∨ X b) β1 h t' tA
  own : OwnAt h (NF (fun b => M b ∨ X b) β1) ob n s cs a
  ob : ∀ b, ob = some b → X b ∧ ¬ M b
  x : ∀ b, X b → ∃ k c, β k c = some b
  sub : ∀ k c b, β1 k c = some b → β k c = some b

theorem sub_setB {k : Nat} {q : Option Nat → Option Nat} (hq : ∀ c b, q c = some b → β k c = some b) : ∀ k' c b, setB β k q k' c = some b → β k' c = some b := by
  intro k' c b hb
  unfold setB at hb
  split at hb
  · rename_i e; subst e; exact hq c b hb
  · exact hb

theorem take_root (s : SR M β h t tA) {k n s' : Nat} {cs : List PV} (hk : t k = .own n s' cs) {a : Value} (ha : (n = 0 ∧ cs = [] ∧ a = .slice none 0 0) ∨ ∃ b ca, β k none = some b ∧ a = .slice (some ⟨b, 0, none⟩) n s' ∧ h[b]? = some (Blk.mem false ca) ∧ n * s' = cs.length ∧ FRs h (NF M β) cs ca) :
    ∃ X β1 ob, Taken M β h tA n s' cs (setR t k .undef) a X β1 ob := by
  rcases ha with ⟨h1, h2, h3⟩ | ⟨b, ca, h1, h2, h3, h4, h5⟩
  · exact ⟨_, _, none, s.dropR k, .inl ⟨rfl, h1, h2, h3⟩, by simp, fun b ⟨c, hc⟩ => ⟨k, c, hc⟩, sub_setB (by simp)⟩
  · exact ⟨_, _, some b, s.dropR k, .inr ⟨b, ca, rfl, h2, h3, h4, h5.keep (Keeps.less nf_dropR)⟩, fun b' hb' => by injection hb' with hb'; subst hb'; exact ⟨⟨none, h1⟩, (s.lt _ _ _ h1).2⟩, fun b ⟨c, hc⟩ => ⟨k, c, hc⟩, sub_setB (by simp)⟩

theorem takeOwn_ok (s : SR M β h t tA) {x : Operand} {n s' : Nat} {cs : List PV} {t' : TT} (hx : takeOwn t x = some (n, s', cs, t')) : ∃ X β1 ob, Taken M β h tA n s' cs t' (Ev tA x) X β1 ob := by
  unfold takeOwn at hx
  split at hx
  · rename_i i
    have htr := s.tr i
    split at hx
    · rename_i n' s2 cs' hi
      injection hx with hx; injection hx with e1 hx; injection hx with e2 hx; injection hx with e3 e4
      subst e1 e2 e3 e4
      rw [hi] at htr
      refine take_root s hi ?_
      rcases htr with ⟨_, h1, h2, h3⟩ | ⟨b, ca, h1, h2, h3, h4, h5⟩
      · exact .inl ⟨h1, h2, h3⟩
      · exact .inr ⟨b, ca, h1, h2, h3, h4, h5⟩
    · rename_i k m s2 hi
      split at hx
      · rename_i n' s3 cs' hk
        split at hx
        · rename_i hc
          injection hx with hx; injection hx with e1 hx; injection hx with e2 hx; injection hx with e3 e4
          obtain ⟨c1, c2⟩ := hc
          subst e1 e2 e3 e4 c1 c2
          rw [hi] at htr
          have hroot := s.tr k
          rw [hk] at hroot
          refine take_root s hk ?_
          rcases htr with ⟨_, h0, h1⟩ | ⟨b, h0, h1⟩
          · refine .inl ⟨h0, ?_, h1⟩
            rcases hroot with ⟨_, _, h2, _⟩ | ⟨_, _, _, _, _, h4, _⟩
            · exact h2
            · rw [h0, Nat.zero_mul] at h4; exact List.length_eq_zero_iff.1 h4.symm
          · obtain ⟨ca, g1, g2, g3, g4⟩ := at_own s hk h0
            exact .inr ⟨b, ca, h0, h1, g2, g3, g4⟩
        · cases hx
      · cases hx
    · rename_i k j m s2 hi
      split at hx
      · rename_i bs hk
        split at hx
        · rename_i n' s3 cs' hj
          split at hx
          · rename_i hc
            injection hx with hx; injection hx with e1 hx; injection hx with e2 hx; injection hx with e3 e4
            obtain ⟨c1, c2⟩ := hc
            subst e1 e2 e3 e4 c1 c2
            rw [hi] at htr
            have hroot := s.tr k
            rw [hk] at hroot
            obtain ⟨b0, ca0, g1, g2, g3, g4, g5⟩ := hroot
            obtain ⟨hjl, hown⟩ := cell_own g5 hj
            let keep : Option Nat → Bool := fun c => decide (c ≠ some j)
            have hkeep : keep none = true := rfl
            have hs := s.set0.drop k keep (.box (bs.set j .gone)) ?_ (klC k) (fun i u a hi hu => klC_tr (by simp [hkeep]) hi hu)
            · have hX : ∀ b, (False ∨ ∃ c, keep c = false ∧ β k c = some b) ↔ β k (some j) = some b := by
                intro b
                constructor
                · rintro (hf | ⟨c, h1, h2⟩)
                  · exact hf.elim
                  · have : c = some j := by simpa [keep] using h1
                    rw [← this]; exact h2
                · intro hb
                  exact .inr ⟨some j, by simp [keep], hb⟩
              have hnf : ∀ b, NF (fun b => M b ∨ (False ∨ ∃ c, keep c = false ∧ β k c = some b)) (setB β k fun c => if keep c then β k c else none) b → NF M β b := by
                rintro b ((hm | hx) | ⟨k', c, hc⟩)
                · exact .inl hm
                · exact .inr ⟨k, some j, (hX b).1 hx⟩
                · exact .inr ⟨k', c, sub_setB (fun c b hb => by split at hb; exact hb; cases hb) _ _ _ hc⟩
              rcases htr with ⟨_, h0, h1⟩ | ⟨b, h0, h1⟩
              · refine ⟨_, _, none, hs, .inl ⟨rfl, h0, ?_, h1⟩, by simp, fun b hb => ⟨k, some j, (hX b).1 hb⟩, sub_setB (fun c b hb => by split at hb; exact hb; cases hb)⟩
                rcases hown with ⟨_, _, h2, _⟩ | ⟨_, _, _, _, _, h4, _⟩
                · exact h2
                · rw [h0, Nat.zero_mul] at h4; exact List.length_eq_zero_iff.1 h4.symm
              · obtain ⟨ca, q2, q3, q4⟩ := at_nest s hk hj h0
                exact ⟨_, _, some b, hs, .inr ⟨b, ca, rfl, h1, q2, q3, q4.keep (Keeps.less hnf)⟩, fun b' hb' => by injection hb' with hb'; subst hb'; exact ⟨(hX _).2 h0, (s.lt _ _ _ h0).2⟩, fun b hb => ⟨k, some j, (hX b).1 hb⟩, sub_setB (fun c b hb => by split at hb; exact hb; cases hb)⟩
            · refine ⟨b0, ca0, by rw [setB_same]; simpa [hkeep] using g1, g2, g3, by rw [List.length_set]; exact g4, ?_⟩
              rw [setB_same]
              have g6 : ∀ i', i' < bs.length → CVR (β k) h (NF (fun b => M b ∨ False) β) i' (bs.getD i' .gone) (ca0.getD i' Go.undef) := by simpa using g5
              intro i' hi'
              have := cvr_set1 (j := j) (c := .gone) g6 trivial i' hi'
              cases hci : (bs.set j CV.gone).getD i' .gone with
              | v p => rw [hci] at this; exact this
              | gone => trivial
              | o n s cs =>
                rw [hci] at this
                have hne : i' ≠ j := by
                  intro he
                  subst he
                  rw [List.length_set] at hi'
                  simp [List.getD, hi'] at hci
                simp only [CVR] at this ⊢
                have e : (if keep (some i') = true then β k (some i') else none) = β k (some i') := by rw [if_pos (by simpa [keep] using hne)]
                rw [e]; exact this
          · cases hx
        · cases hx
      · cases hx
    · cases hx
  · cases hx

theorem app_sound (s : SR M β h t tA) {size bytes : Nat} {x y : Operand} (hx : appW size bytes t x y = some (v, t1)) : Sound M β h tA (aAppend h size bytes (Ev tA x) (Ev tA y)) v t1 := by
  unfold appW at hx
  split at hx
  · cases hx
  · rename_i m new hsrc
    obtain ⟨na, q1, q2, q3, q4⟩ := srcP_ok s hsrc
    split at hx
    · cases hx
    · rename_i n s' cs t' ht
      obtain ⟨X, β1, ob, tk⟩ := takeOwn_ok s ht
      split at hx
      · rename_i hc
        obtain ⟨c1, c2⟩ := hc
        injection hx with hx; injection hx with e1 e2; subst e1 e2 c1
        have hnf : ∀ b, NF (fun b => M b ∨ X b) β1 b → NF M β b := by
          rintro b ((hm | hxx) | ⟨k', c, hc⟩)
          · exact .inl hm
          · obtain ⟨k, c, hk⟩ := tk.x b hxx
            exact .inr ⟨k, c, hk⟩
          · exact .inr ⟨k', c, tk.sub _ _ _ hc⟩
        have hXof : ∀ b, X b → h.length ≤ b ∨ ∃ k c, β k c = some b := fun b hb => .inr (tk.x b hb)
        have fr0 : Fr β h β1 h := Fr.less fun k c b hb => ⟨k, c, tk.sub _ _ _ hb⟩
        unfold aAppend
        rw [q1, q2]
        by_cases h0 : m = 0
        · subst h0
          have hnew : new = [] := by
            have : new.length = 0 := by rw [← q3, Nat.zero_mul]
            exact List.length_eq_zero_iff.1 this
          subst hnew
          have done : Sound M β h tA (some (Ev tA x, h)) (.own (n + 0) s' (cs ++ [])) t' := by
            rw [Nat.add_zero, List.append_nil]
            refine Sound.root rfl fr0 tk.sr (fun c => if c = none then ob else none) ?_ ?_ hXof rfl tk.own
            · intro c b hb
              split at hb
              · exact tk.ob b hb
              · cases hb
            · intro c c' b h1 h2
              split at h1 <;> split at h2 <;> simp_all
          rcases tk.own with ⟨_, _, _, ea⟩ | ⟨b, ca, e1, ea, e3, e4, e5⟩
          · rw [ea] at done ⊢; exact done
          · rw [ea] at done ⊢
            simp only [if_true]
            exact done
        · have new_block : ∀ (h1 : Heap) (cells : List Value), h1.length = h.length → (∀ b, b < h.length → ¬ X b → h1[b]? = h[b]?) → FRs h (NF (fun b => M b ∨ X b) β1) (cs ++ new) cells → (n + m) * s' = (cs ++ new).length →
              Sound M β h tA (some (.slice (some ⟨h1.length, 0, none⟩) (n + m) s', newBlk h1 cells)) (.own (n + m) s' (cs ++ new)) t' := by
            intro h1 cells hl hsame hf hlen
            have hnl : (newBlk h1 cells).length = h.length + 1 := by simp [newBlk, hl]
            have hold : ∀ b, b < h.length → ¬ X b → (newBlk h1 cells)[b]? = h[b]? := fun b hb hxx => by
              simp only [newBlk]; rw [List.getElem?_append_left (by omega)]; exact hsame b hb hxx
            have s1 := tk.sr.heap (h' := newBlk h1 cells) (Y := fun b => b = h.length) (by omega) hold (fun b hb => .inr (by subst hb; omega))
            refine Sound.root rfl ⟨by omega, fun b hb hn => hold b hb fun hxx => ?_, fun k c b hb => .inr ⟨k, c, tk.sub _ _ _ hb⟩⟩ s1 (fun c => if c = none then some h.length else none) ?_ ?_ (fun b hb => .inl (by have hb : b = h.length := hb; omega)) rfl ?_
            · obtain ⟨k, c, hk⟩ := tk.x b hxx
              exact hn k c hk
            · intro c b hb
              split at hb
              · injection hb with hb
                exact ⟨hb.symm, fun hm => by have := s.mlt b hm; omega⟩
              · cases hb
            · intro c c' b h1 h2
              split at h1 <;> split at h2 <;> simp_all
            · refine .inr ⟨h.length, cells, by simp, by rw [hl], ?_, hlen, hf.keep ?_⟩
              · rw [← hl]; simp [newBlk]
              · intro b ro ca' g1 g2
                have hb : b < h.length := get_lt g2
                have hxx : ¬ X b := fun hxx => g1 (.inl (.inr hxx))
                refine ⟨?_, by rw [hold b hb hxx]; exact g2⟩
                rintro ((hm | hy) | ho)
                · exact g1 (.inl (.inl hm))
                · have hy : b = h.length := hy
                  omega
                · exact g1 (.inr ho)
          have hnewf : FRs h (NF (fun b => M b ∨ X b) β1) new na := q4.keep (Keeps.less hnf)
          rcases tk.own with ⟨_, e1, e2, ea⟩ | ⟨b, ca, e1, ea, e3, e4, e5⟩
          · rw [ea]
            simp only [h0, if_false]
            subst e1 e2
            rw [Nat.zero_add] at c2
            rw [if_pos c2]
            have := new_block h na rfl (fun _ _ _ => rfl) (by simpa using hnewf) (by simpa using q3)
            simpa using this
          · rw [ea]
            simp only [if_true, h0, if_false, e3]
            rw [if_pos ⟨by rw [← e5.1]; omega, c2⟩]
            have := new_block (h.set b .dead) ((ca.drop 0).take (n * s') ++ na) (by simp) (fun b' hb' hxx => by
              have hne : b ≠ b' := fun he => hxx (he ▸ (tk.ob b e1).1)
              rw [List.getElem?_set_ne hne]) (by
              rw [List.drop_zero, List.take_of_length_le (by rw [← e5.1]; omega)]
              exact frs_append e5 hnewf) (by rw [List.length_append, Nat.add_mul, e4, q3])
            simpa using this
      · cases hx

theorem plcS_ok (s : SR M β h t tA) {x : Operand} {k off n s' : Nat} {c : Option Nat} (hx : plcS t x = some (k, c, off, n, s')) : TR β h (NF M β) 0 (.slc k c off n s') (Ev tA x) := by
  unfold plcS at hx
  split at hx
  · rename_i i
    have htr := s.tr i
    split at hx
    · rename_i n' s2 cs hi
      injection hx with hx; injection hx with e1 hx; injection hx with e2 hx; injection hx with e3 hx; injection hx with e4 e5
      subst e1 e2 e3 e4 e5
      rw [hi] at htr
      rcases htr with ⟨h0, h1, _, h3⟩ | ⟨b, ca, h1, h2, _⟩
      · exact .inl ⟨h0, h1, h3⟩
      · exact .inr ⟨b, h1, h2⟩
    · rename_i k' c' off' n' s2 hi
      injection hx with hx; injection hx with e1 hx; injection hx with e2 hx; injection hx with e3 hx; injection hx with e4 e5
      subst e1 e2 e3 e4 e5
      rw [hi] at htr
      exact htr
    · cases hx
  · cases hx

theorem copy_sound (s : SR M β h t tA) {size : Nat} {x y : Operand} (hx : copyW size t x y = some (v, t1)) : Sound M β h tA (aCopy h size (Ev tA x) (Ev tA y)) v t1 := by
  unfold copyW at hx
  split at hx
  · rename_i k c off n s' m new hp hsrc
    obtain ⟨na, q1, q2, q3, q4⟩ := srcP_ok s hsrc
    have hpl := plcS_ok s hp
    split at hx
    · rename_i hss
      subst hss
      rw [Option.map_eq_some_iff] at hx
      obtain ⟨t2, hw, hx⟩ := hx
      injection hx with e1 e2; subst e1 e2
      have hmin : Nat.min m n ≤ m := Nat.min_le_left _ _
      have hmin2 : Nat.min m n ≤ n := Nat.min_le_right _ _
      have hmul : Nat.min m n * s' ≤ m * s' := Nat.mul_le_mul_right _ hmin
      have htl : (new.take (Nat.min m n * s')).length = Nat.min m n * s' := by rw [List.length_take]; omega
      have htf := frs_take q4 (Nat.min m n * s')
      have plainR : ∀ {h2 : Heap}, Fr β h β h2 → SR M β h2 t2 tA → aCopy h s' (Ev tA x) (Ev tA y) = some (.int .i64 (Nat.min m n : Nat), h2) → Sound M β h tA (aCopy h s' (Ev tA x) (Ev tA y)) (.val (.sc (.int .i64 (Nat.min m n : Nat)))) t2 :=
        fun fr hs he => Sound.plain he fr hs rfl (FR.sc _ rfl)
      unfold wrSlc at hw
      split at hw
      · rename_i n' s2 cs hk
        split at hw
        · rename_i hc
          obtain ⟨hs2, hle, hnl⟩ := hc
          injection hw with hw; subst hw hs2
          rcases hpl with ⟨_, z0, z1⟩ | ⟨b, hb, ha⟩
          · subst z0
            have hm0 : Nat.min m 0 = 0 := Nat.min_zero _
            have e : updT t k (.own n' s2 (cs.take off ++ new.take (Nat.min m 0 * s2) ++ cs.drop (off + (new.take (Nat.min m 0 * s2)).length))) = t := by
              rw [hm0]
              funext i; unfold updT; split
              · rename_i hi; subst hi; simp [hk]
              · rfl
            rw [e]
            rw [e] at plainR
            refine plainR Fr.refl s ?_
            rw [hm0]
            unfold aCopy
            rw [z1]
            simp only [q1]
            rfl
          · obtain ⟨ca, g1, g2, g3, g4⟩ := at_own s hk hb
            have hca : aCopy h s2 (Ev tA x) (Ev tA y) = if Nat.min m n = 0 then some (.int .i64 0, h) else (writeN h b off (na.take (Nat.min m n * s2))).map fun h' => (.int .i64 (Nat.min m n : Nat), h') := by
              unfold aCopy
              rw [ha]
              simp only [if_true, q1, q2]
            by_cases hm0 : Nat.min m n = 0
            · rw [if_pos hm0] at hca
              have e : updT t k (.own n' s2 (cs.take off ++ new.take (Nat.min m n * s2) ++ cs.drop (off + (new.take (Nat.min m n * s2)).length))) = t := by
                rw [hm0]
                funext i; unfold updT; split
                · rename_i hi; subst hi; simp [hk]
                · rfl
              rw [e] at plainR ⊢
              exact plainR Fr.refl s (by rw [hca, hm0]; rfl)
            · rw [if_neg hm0] at hca
              have hwr : writeN h b off (na.take (Nat.min m n * s2)) = some (h.set b (.mem false (ca.take off ++ na.take (Nat.min m n * s2) ++ ca.drop (off + (na.take (Nat.min m n * s2)).length)))) := by
                simp only [writeN, g2]
                rw [if_pos (by rw [← htf.1, htl, ← g4.1]; have := Nat.mul_le_mul_right s2 hmin2; omega)]
              rw [hwr, Option.map_some] at hca
              have hcs := frs_splice (off := off) g4 htf
              refine plainR (Fr.write hb) (write_own s hk hb g2 g1 ?_ hcs) hca
              rw [g3]
              simp only [List.length_append, List.length_take, List.length_drop] at hnl ⊢
              have := Nat.mul_le_mul_right s2 hmin2
              omega
        · cases hw
      · rename_i cs hk
        split at hw
        · rename_i hc
          obtain ⟨hle, hnl, _⟩ := hc
          injection hw with hw; subst hw
          rcases hpl with ⟨_, z0, z1⟩ | ⟨b, hb, ha⟩
          · subst z0
            have hm0 : Nat.min m 0 = 0 := Nat.min_zero _
            have e : updT t k (.box (cs.take off ++ (new.take (Nat.min m 0 * s')).map .v ++ cs.drop (off + (new.take (Nat.min m 0 * s')).length))) = t := by
              rw [hm0]
              funext i; unfold updT; split
              · rename_i hi; subst hi; simp [hk]
              · rfl
            rw [e]
            rw [e] at plainR
            refine plainR Fr.refl s ?_
            rw [hm0]
            unfold aCopy
            rw [z1]
            simp only [q1]
            rfl
          · obtain ⟨ca, g1, g2, g3, g4⟩ := at_box s hk hb
            have hca : aCopy h s' (Ev tA x) (Ev tA y) = if Nat.min m n = 0 then some (.int .i64 0, h) else (writeN h b off (na.take (Nat.min m n * s'))).map fun h' => (.int .i64 (Nat.min m n : Nat), h') := by
              unfold aCopy
              rw [ha]
              simp only [if_true, q1, q2]
            by_cases hm0 : Nat.min m n = 0
            · rw [if_pos hm0] at hca
              have e : updT t k (.box (cs.take off ++ (new.take (Nat.min m n * s')).map .v ++ cs.drop (off + (new.take (Nat.min m n * s')).length))) = t := by
                rw [hm0]
                funext i; unfold updT; split
                · rename_i hi; subst hi; simp [hk]
                · rfl
              rw [e] at plainR ⊢
              exact plainR Fr.refl s (by rw [hca, hm0]; rfl)
            · rw [if_neg hm0] at hca
              have hle2 : off + Nat.min m n * s' ≤ cs.length := by have := Nat.mul_le_mul_right s' hmin2; omega
              have hwr : writeN h b off (na.take (Nat.min m n * s')) = some (h.set b (.mem false (ca.take off ++ na.take (Nat.min m n * s') ++ ca.drop (off + (na.take (Nat.min m n * s')).length)))) := by
                simp only [writeN, g2]
                rw [if_pos (by rw [← htf.1, htl, ← g3]; exact hle2)]
              rw [hwr, Option.map_some] at hca
              obtain ⟨c1, c2⟩ := cvr_splice (off := off) g3 g4 htf (by rw [htl]; exact hle2)
              refine plainR (Fr.write hb) ?_ hca
              rw [updT_eq]
              exact write_box s hk hb g2 g1 c1 c2 id (fun _ _ _ _ hu => hu)
        · cases hw
      · cases hw
    · cases hx
  · cases hx

end
end Go.Wb

/- All operations that are no calls. -/
namespace Go.Wb
open Go

section
variable {M : Nat → Prop} {β β1 : Bt} {h h' : Heap} {t t1 : TT} {tA : T} {v : TV}

theorem scVals_ok {N : Nat → Prop} : ∀ {l : List PV} {vs : List Value} {ca : List Value}, scVals l = some vs → FRs h N l ca → ca = vs
  | [], vs, ca, hx, hf => by
    simp only [scVals] at hx; injection hx with hx; subst hx
    exact List.length_eq_zero_iff.1 hf.1.symm
  | .sc u :: l, vs, ca, hx, hf => by
    simp only [scVals, Option.map_eq_some_iff] at hx
    obtain ⟨vs', h1, rfl⟩ := hx
    cases ca with
    | nil => have := hf.1; simp at this
    | cons c ca =>
      have h0 := hf.2 0 (by simp)
      simp only [List.getD_eq_getElem?_getD, List.getElem?_cons_zero, Option.getD_some] at h0
      cases h0
      have := scVals_ok (ca := ca) h1 ⟨by simpa using hf.1, fun i hi => by simpa using hf.2 (i + 1) (by simpa using hi)⟩
      rw [this]
  | .agg _ :: l, vs, ca, hx, hf => by simp [scVals] at hx
  | .sl _ _ :: l, vs, ca, hx, hf => by simp [scVals] at hx

theorem bytesOf_ok {N : Nat → Prop} : ∀ {l : List PV} {bs : List UInt8} {ca : List Value}, bytesOf l = some bs → FRs h N l ca → (ca.all fun v => match v with | .int .u8 _ => true | _ => false) = true ∧ ca.map (fun v => match v with | .int _ n => UInt8.ofNat n.toNat | _ => 0) = bs
  | [], bs, ca, hx, hf => by
    simp only [bytesOf] at hx; injection hx with hx; subst hx
    have := List.length_eq_zero_iff.1 hf.1.symm
    subst this; exact ⟨rfl, rfl⟩
  | p :: l, bs, ca, hx, hf => by
    simp only [bytesOf] at hx
    split at hx
    · rename_i b r h1 h2
      injection hx with hx; subst hx
      cases ca with
      | nil => have := hf.1; simp at this
      | cons c ca =>
        have h0 := hf.2 0 (by simp)
        simp only [List.getD_eq_getElem?_getD, List.getElem?_cons_zero, Option.getD_some] at h0
        obtain ⟨q1, q2⟩ := bytesOf_ok (ca := ca) h2 ⟨by simpa using hf.1, fun i hi => by simpa using hf.2 (i + 1) (by simpa using hi)⟩
        unfold byteOf at h1
        split at h1
        · injection h1 with h1; subst h1
          cases h0
          exact ⟨by rw [List.all_cons, q1]; rfl, by rw [List.map_cons, q2]⟩
        · cases h1
    · cases hx

theorem sla_src {x : Operand} {bs : List UInt8} (hs : ∃ n cs, SlA h (NF M β) n cs (Ev tA x) ∧ n = cs.length ∧ bytesOf cs = some bs) : ∃ ca, srcCells h 1 (Ev tA x) = some ca ∧ isStr (Ev tA x) = false ∧ (ca.all fun v => match v with | .int .u8 _ => true | _ => false) = true ∧ ca.map (fun v => match v with | .int _ n => UInt8.ofNat n.toNat | _ => 0) = bs := by
  obtain ⟨n, cs, h1, h2, h3⟩ := hs
  rcases h1 with ⟨rfl, rfl, e | ⟨b, o, s', e⟩⟩ | ⟨b, o, s', ro, ca, e, e3, e4, e5, e6⟩
  · simp only [bytesOf] at h3; injection h3 with h3; subst h3
    rw [e]; exact ⟨[], rfl, rfl, rfl, rfl⟩
  · simp only [bytesOf] at h3; injection h3 with h3; subst h3
    rw [e]; exact ⟨[], by simp [srcCells], rfl, rfl, rfl⟩
  · rw [e]
    by_cases h0 : n = 0
    · subst h0
      have : cs = [] := List.length_eq_zero_iff.1 h2.symm
      subst this
      simp only [bytesOf] at h3; injection h3 with h3; subst h3
      exact ⟨[], by simp [srcCells], rfl, rfl, rfl⟩
    · have hss : s' = 1 := by
        have : n * s' = n * 1 := by omega
        exact Nat.eq_of_mul_eq_mul_left (by omega) this
      subst hss
      have hf : FRs h (NF M β) cs ((ca.drop o).take (n * 1)) := ⟨by rw [List.length_take, List.length_drop]; omega, fun i hi => by rw [take_drop_getD (by omega)]; exact e6 i hi⟩
      obtain ⟨q1, q2⟩ := bytesOf_ok h3 hf
      refine ⟨_, ?_, rfl, q1, q2⟩
      simp only [srcCells, if_neg h0, if_true, readN, e3]
      rw [if_pos (by omega)]

theorem path_sound (s : SR M β h t tA) {x : Operand} (g : Nat → Nat) (hx : (match EvT t x with | .pf cs o => some (TV.pf cs (g o), t) | _ => (plc t x).map fun p => (TV.ref p.1 p.2.1 (g p.2.2), t)) = some (v, t1)) (hg : ∀ o off, g (o + off) = o + g off) :
    t1 = t ∧ isRoot v = false ∧ ∃ b o, Ev tA x = .pointer (some ⟨b, o, none⟩) ∧ TR β h (NF M β) 0 v (.pointer (some ⟨b, g o, none⟩)) := by
  split at hx
  · rename_i cs o he
    injection hx with hx; injection hx with e1 e2; subst e1 e2
    obtain ⟨b, o', ro, ca, q1, q2, q3, q4, q5⟩ := ev_pf s he
    exact ⟨rfl, rfl, b, o' + o, q1, b, o', ro, ca, by rw [hg], q2, q3, q4, q5⟩
  · rw [Option.map_eq_some_iff] at hx
    obtain ⟨⟨k, c, off⟩, hp, hx⟩ := hx
    injection hx with e1 e2; subst e1 e2
    obtain ⟨b, hb, ha⟩ := plc_ok s hp
    exact ⟨rfl, rfl, b, off, ha, b, hb, rfl⟩

theorem op_sound' (s : SR M β h t tA) {rr : Bool} {ann : List (Nat × Nat)} {op : AOp} (hx : opW rr ann op t = some (v, t1)) : Sound M β h tA (aOp op tA h) v t1 := by
  unfold opW at hx
  split at hx
  · rename_i hsc
    split at hx
    · rename_i u hh hu
      split at hx
      · rename_i hs
        injection hx with hx; injection hx with e1 e2; subst e1 e2
        exact Sound.plain (sc_sound s hsc hu hs) Fr.refl s rfl (FR.sc _ hs)
      · cases hx
    · cases hx
  · rename_i hsc
    cases op <;> first | (exact absurd rfl hsc; done) | skip
    all_goals simp only at hx
    case move x => exact mv_sound s hx
    case const c =>
      rw [Option.map_eq_some_iff] at hx
      obtain ⟨p, hp, hx⟩ := hx
      injection hx with e1 e2; subst e1 e2
      exact Sound.plain rfl Fr.refl s rfl (pvC_fr hp)
    case box x =>
      split at hx
      · rename_i p he
        injection hx with hx; injection hx with e1 e2; subst e1 e2
        obtain ⟨h1, h2⟩ := frs_cells (ev_val s he)
        refine Sound.new (a := .pointer (some ⟨h.length, 0, none⟩)) (cells := valCells (Ev tA _)) (by simp only [aOp, h2, if_true]; rfl) s rfl fun N hk hg => ?_
        have h3 := hk _ _ h1
        exact ⟨h.length, _, by simp, rfl, hg, by rw [List.length_map]; exact h1.1, fun j hj => by
          rw [List.length_map] at hj
          rw [map_v_getD hj]
          exact h3.2 j hj⟩
      · rename_i i n s' cs he
        injection hx with hx; injection hx with e1 e2; subst e1 e2
        have htr := s.tr i
        have hi : t i = .own n s' cs := he
        rw [hi] at htr
        have hcells : isTuple (tA i) = false ∧ valCells (tA i) = [tA i] := by
          rcases htr with ⟨_, _, _, e⟩ | ⟨_, _, _, e, _⟩ <;> rw [e] <;> exact ⟨rfl, rfl⟩
        have hlen : (newBlk h [tA i]).length = h.length + 1 := by simp [newBlk]
        have hold : ∀ b, b < h.length → (newBlk h [tA i])[b]? = h[b]? := fun b hb => by simp only [newBlk]; rw [List.getElem?_append_left hb]
        have s1 := (s.dropR i).heap (h' := newBlk h [tA i]) (Y := fun b => (∃ c, β i c = some b) ∨ b = h.length) (by omega) (fun b hb _ => hold b hb) (fun b hb => by
          rcases hb with hb | hb
          · exact .inl hb
          · exact .inr (by subst hb; omega))
        have fr : Fr β h (setB β i fun _ => none) (newBlk h [tA i]) := ⟨by omega, fun b hb _ => hold b hb, fun k c b hb => .inr ⟨k, c, sub_setB (by simp) k c b hb⟩⟩
        refine Sound.root (a := .pointer (some ⟨h.length, 0, none⟩)) (by simp only [aOp, Ev, hcells.1, if_true, hcells.2]) fr s1 (fun c => if c = none then some h.length else if c = some 0 then β i none else none) ?_ ?_ ?_ rfl ?_
        · intro c b hb
          split at hb
          · injection hb with hb
            exact ⟨.inr hb.symm, fun hm => by have := s.mlt b hm; omega⟩
          · split at hb
            · exact ⟨.inl ⟨none, hb⟩, (s.lt _ _ _ hb).2⟩
            · cases hb
        · intro c c' b h1 h2
          have hlt := fun hb => (s.lt i none b hb).1
          split at h1 <;> split at h2 <;> (try split at h1) <;> (try split at h2) <;> simp_all <;> omega
        · rintro b (⟨c, hc⟩ | hb)
          · exact .inr ⟨i, c, hc⟩
          · exact .inl (by omega)
        · refine ⟨h.length, [tA i], by simp, rfl, by simp [newBlk], rfl, fun j hj => ?_⟩
          have : j = 0 := by simpa using hj
          subst this
          show OwnAt _ _ (if some 0 = none then some h.length else if some 0 = some 0 then β i none else none) _ _ _ _
          rw [if_neg (by simp), if_pos rfl]
          refine OwnAt.keep htr ?_ fun b hb => hold b (s.lt _ _ _ hb).1
          intro b ro ca q1 q2
          refine ⟨?_, by rw [hold b (get_lt q2)]; exact q2⟩
          rintro ((hm | ⟨c, hc⟩ | hb) | ⟨k, c, hc⟩)
          · exact q1 (.inl hm)
          · exact q1 (.inr ⟨i, c, hc⟩)
          · have := get_lt q2; omega
          · exact q1 (.inr ⟨k, c, sub_setB (by simp) k c b hc⟩)
      · cases hx
    case alloc z =>
      rw [Option.map_eq_some_iff] at hx
      obtain ⟨cs, hz, hx⟩ := hx
      injection hx with e1 e2; subst e1 e2
      refine Sound.new (cells := z) rfl s rfl fun N hk hg => ?_
      obtain ⟨q1, q2⟩ := zcv_ok (h := newBlk h z) (N := N) (β' := fun c => if c = none then some h.length else none) (by simp) hz
      exact ⟨h.length, _, by simp, rfl, hg, q1, fun j hj => q2 j hj j⟩
    case build z ps =>
      split at hx
      · rename_i l hz
        rw [Option.map_eq_some_iff] at hx
        obtain ⟨cs, hf, hx⟩ := hx
        injection hx with e1 e2; subst e1 e2
        obtain ⟨la, q1, q2, q3⟩ := fillP_ok s (pvCs_frs hz) hf
        exact Sound.plain (by simp only [aOp, q1, Option.map_some]) Fr.refl s rfl (frs_agg q2)
      · cases hx
    case buildSlice size n z ps =>
      split at hx
      · rename_i l hz
        split at hx
        · rename_i cs hf
          split at hx
          · rename_i hl
            injection hx with hx; injection hx with e1 e2; subst e1 e2
            obtain ⟨la, q1, q2, q3⟩ := fillP_ok s (frs_rep (pvCs_frs hz) n) hf
            exact Sound.newOwn (cells := la) (by simp only [aOp, q1, Option.map_some]) s hl.symm q2
          · cases hx
        · cases hx
      · cases hx
    case load n x =>
      cases n with
      | none =>
        rw [Option.map_eq_some_iff] at hx
        obtain ⟨u, hu, hx⟩ := hx
        injection hx with e1 e2; subst e1 e2
        obtain ⟨hr, a, q1, q2⟩ := ld1_sound s hu
        exact Sound.plain (by simp only [aOp, q1, Option.map_some]) Fr.refl s hr q2
      | some m => exact ldN_sound s hx
    case store n x y =>
      cases n with
      | none =>
        rw [Option.map_eq_some_iff] at hx
        obtain ⟨u, hu, hx⟩ := hx
        injection hx with e1 e2; subst e1 e2
        exact st1_sound s hu
      | some m =>
        rw [Option.map_eq_some_iff] at hx
        obtain ⟨u, hu, hx⟩ := hx
        injection hx with e1 e2; subst e1 e2
        exact stN_sound s hu
    case nilCheck x =>
      obtain ⟨rfl, hr, b, o, q1, q2⟩ := path_sound s (g := fun o => o) hx (fun _ _ => rfl)
      exact Sound.plain (by simp only [aOp, q1]) Fr.refl s hr q2
    case eqv neg ks x y =>
      split at hx
      · rename_i a b h1 h2
        split at hx
        · rename_i la lb h3 h4
          rw [Option.map_eq_some_iff] at hx
          obtain ⟨u, hu, hx⟩ := hx
          injection hx with e1 e2; subst e1 e2
          obtain ⟨aa, e1, f1⟩ := fr_agg (ev_val s h1)
          obtain ⟨ab, e2, f2⟩ := fr_agg (ev_val s h2)
          have g1 := scVals_ok h3 f1
          have g2 := scVals_ok h4 f2
          exact Sound.plain (by simp only [aOp, e1, e2, aEq, g1, g2, hu, Option.map_some]) Fr.refl s rfl (FR.sc _ rfl)
        · cases hx
      · cases hx
    case nilv neg x =>
      split at hx
      · rename_i n hn
        split at hx
        · rename_i h0
          injection hx with hx; injection hx with e1 e2; subst e1 e2
          obtain ⟨p, s', e⟩ := (slLen_ok s hn).2 h0
          exact Sound.plain (by simp only [aOp, e]) Fr.refl s rfl (FR.sc _ rfl)
        · cases hx
      · cases hx
    case len x =>
      rw [Option.map_eq_some_iff] at hx
      obtain ⟨n, hn, hx⟩ := hx
      injection hx with e1 e2; subst e1 e2
      obtain ⟨p, s', e⟩ := (slLen_ok s hn).1
      exact Sound.plain (by simp only [aOp, e]) Fr.refl s rfl (FR.sc _ rfl)
    case strBytes x =>
      split at hx
      · rename_i str he
        injection hx with hx; injection hx with e1 e2; subst e1 e2
        obtain ⟨e, _⟩ := ev_sc s he
        refine Sound.newOwn (cells := str.data.toList.map fun b => .int .u8 b.toNat) (by simp only [aOp, e]) s (by rw [Nat.mul_one, List.length_map, Array.length_toList]; rfl) ⟨by rw [List.length_map, List.length_map], fun i hi => ?_⟩
        rw [List.length_map] at hi
        simp only [List.getD_eq_getElem?_getD, List.getElem?_map, List.getElem?_eq_getElem hi, Option.map_some, Option.getD_some]
        exact .sc _ rfl
      · cases hx
    case bytesStr x =>
      split at hx
      · rename_i n cs hsl
        split at hx
        · rename_i hn
          rw [Option.map_eq_some_iff] at hx
          obtain ⟨l, hl, hx⟩ := hx
          injection hx with e1 e2; subst e1 e2
          obtain ⟨ca, q1, q2, q3, q4⟩ := sla_src (x := x) (bs := l) ⟨n, cs, slv_ok s hsl, hn, hl⟩
          refine Sound.plain (a := .string ⟨l.toArray⟩) ?_ Fr.refl s rfl (FR.sc _ rfl)
          simp only [aOp, q1]
          rw [if_pos ⟨q2, q3⟩, ← q4]
          rfl
        · cases hx
      · cases hx
    case makeSlice size bytes z l c =>
      split at hx
      · rename_i zs k1 l' k2 c' h1 h2 h3
        split at hx
        · rename_i hc
          injection hx with hx; injection hx with e1 e2; subst e1 e2
          obtain ⟨e1, _⟩ := ev_sc s h2
          obtain ⟨e2, _⟩ := ev_sc s h3
          refine Sound.newOwn (cells := repCells l'.toNat z) ?_ s (by rw [repP_len, hc.2.2.2]) (frs_rep (pvCs_frs h1) _)
          simp only [aOp, e1, e2]
          rw [if_pos ⟨hc.1, hc.2.1, hc.2.2.1⟩]
        · cases hx
      · cases hx
    case sliceSl size x lo hi =>
      split at hx
      · rename_i n cs he
        split at hx
        · rename_i hh hb1
          split at hx
          · rename_i l hb2
            split at hx
            · rename_i hn
              injection hx with hx; injection hx with e1 e2; subst e1 e2
              have g1 := bound_ok s hb1
              have g2 := bound_ok s hb2
              have hhn : hh ≤ n ∧ l ≤ hh := by
                have bd : ∀ {d m r : Nat} {o : Option Operand}, bound tA d m o = some r → r ≤ m := by
                  intro d m r o hb
                  unfold bound at hb
                  split at hb
                  · split at hb
                    · injection hb with hb; omega
                    · cases hb
                  · split at hb
                    · split at hb
                      · injection hb with hb; omega
                      · cases hb
                    · cases hb
                exact ⟨bd g1, bd g2⟩
              have hlen : ((cs.drop (l * size)).take ((hh - l) * size)).length = (hh - l) * size := by
                rw [List.length_take, List.length_drop, ← hn]
                have : l * size + (hh - l) * size ≤ n * size := by rw [← Nat.add_mul]; exact Nat.mul_le_mul_right _ (by omega)
                omega
              have hle : l * size + (hh - l) * size ≤ n * size := by rw [← Nat.add_mul]; exact Nat.mul_le_mul_right _ (by omega)
              rcases fr_sl (ev_val s he) with ⟨rfl, rfl, e | ⟨b, o, s', e⟩⟩ | ⟨b, o, s', ro, ca, e, e3, e4, e5, e6⟩
              · have z1 : hh = 0 := by omega
                have z2 : l = 0 := by omega
                subst z1 z2
                refine Sound.plain (a := .slice none 0 0) (by simp only [aOp, e, g1, g2]) Fr.refl s rfl ?_
                simp only [Nat.zero_mul, List.drop_nil, List.take_nil, Nat.sub_zero]
                exact FR.slNil
              · have z1 : hh = 0 := by omega
                have z2 : l = 0 := by omega
                subst z1 z2
                refine Sound.plain (a := .slice (some ⟨b, o + 0 * size, none⟩) (0 - 0) s') ?_ Fr.refl s rfl ?_
                · simp only [aOp, e]
                  rw [if_pos (.inr trivial), g1]
                  simp only
                  rw [g2]
                · simp only [Nat.zero_mul, List.drop_nil, List.take_nil, Nat.sub_zero]
                  exact FR.slE _ _ _
              · have hfr := ev_val s he
                rw [e] at hfr
                have hNb : ¬ NF M β b ∨ n = 0 := by
                  cases hfr with
                  | slE => exact .inr rfl
                  | sl n s cs b o ro ca hn' _ _ _ _ => exact .inl hn'
                have hsz : s' = size ∨ n = 0 := by
                  rcases Nat.eq_zero_or_pos n with h0 | h0
                  · exact .inr h0
                  · have : n * s' = n * size := by omega
                    exact .inl (Nat.eq_of_mul_eq_mul_left h0 this)
                refine Sound.plain (a := .slice (some ⟨b, o + l * size, none⟩) (hh - l) s') ?_ Fr.refl s rfl ?_
                · simp only [aOp, e]
                  rw [if_pos hsz, g1]
                  simp only
                  rw [g2]
                · by_cases hz : hh - l = 0
                  · rw [hz] at hlen ⊢
                    rw [Nat.zero_mul, List.take_zero]
                    exact FR.slE _ _ _
                  · have hn0 : n ≠ 0 := by omega
                    have hs' : s' = size := by rcases hsz with h1 | h1; exact h1; exact absurd h1 hn0
                    subst hs'
                    have hNb' : ¬ NF M β b := by rcases hNb with h1 | h1; exact h1; exact absurd h1 hn0
                    refine FR.sl _ _ _ b (o + l * s') ro ca hNb' e3 hlen.symm (by rw [hlen]; omega) fun i hi => ?_
                    rw [hlen] at hi
                    rw [take_drop_getD hi]
                    have := e6 (l * s' + i) (by omega)
                    rwa [← Nat.add_assoc] at this
            · cases hx
          · cases hx
        · cases hx
      · split at hx
        · rename_i k c off n s' hp
          split at hx
          · rename_i hss
            subst hss
            split at hx
            · rename_i hh hb1
              split at hx
              · rename_i l hb2
                injection hx with hx; injection hx with e1 e2; subst e1 e2
                have g1 := bound_ok s hb1
                have g2 := bound_ok s hb2
                rcases plcS_ok s hp with ⟨hb0, h0, e⟩ | ⟨b, hb, e⟩
                · subst h0
                  have bd : ∀ {d m r : Nat} {o : Option Operand}, bound tA d m o = some r → r ≤ m := by
                    intro d m r o hb
                    unfold bound at hb
                    split at hb
                    · split at hb
                      · injection hb with hb; omega
                      · cases hb
                    · split at hb
                      · split at hb
                        · injection hb with hb; omega
                        · cases hb
                      · cases hb
                  have z1 := bd g1
                  have z2 := bd g2
                  exact Sound.plain (by simp only [aOp, e, g1, g2]) Fr.refl s rfl (.inl ⟨hb0, by omega, rfl⟩)
                · refine Sound.plain (a := .slice (some ⟨b, off + l * s', none⟩) (hh - l) s') ?_ Fr.refl s rfl (.inr ⟨b, hb, rfl⟩)
                  simp only [aOp, e]
                  rw [if_pos (.inl trivial), g1]
                  simp only
                  rw [g2]
              · cases hx
            · cases hx
          · cases hx
        · cases hx
    case sliceArr n size x lo hi =>
      have bd : ∀ {d m r : Nat} {o : Option Operand}, bound tA d m o = some r → r ≤ m := by
        intro d m r o hb
        unfold bound at hb
        split at hb
        · split at hb
          · injection hb with hb; omega
          · cases hb
        · split at hb
          · split at hb
            · injection hb with hb; omega
            · cases hb
          · cases hb
      split at hx
      · rename_i cs off he
        split at hx
        · rename_i hle
          split at hx
          · rename_i hh hb1
            split at hx
            · rename_i l hb2
              injection hx with hx; injection hx with e1 e2; subst e1 e2
              have g1 := bound_ok s hb1
              have g2 := bound_ok s hb2
              have z1 := bd g1
              have z2 := bd g2
              obtain ⟨b, o, ro, ca, q1, q2, q3, q4, q5⟩ := ev_pf s he
              have hle2 : l * size + (hh - l) * size ≤ n * size := by rw [← Nat.add_mul]; exact Nat.mul_le_mul_right _ (by omega)
              have hlen : ((cs.drop (off + l * size)).take ((hh - l) * size)).length = (hh - l) * size := by
                rw [List.length_take, List.length_drop]; omega
              refine Sound.plain (a := .slice (some ⟨b, o + off + l * size, none⟩) (hh - l) size) ?_ Fr.refl s rfl ?_
              · simp only [aOp, q1, q3]
                rw [if_pos (by omega), g1]
                simp only
                rw [g2]
              · by_cases hz : hh - l = 0
                · rw [hz, Nat.zero_mul, List.take_zero]
                  exact FR.slE _ _ _
                · refine FR.sl _ _ _ b (o + off + l * size) ro ca q2 q3 hlen.symm (by rw [hlen]; omega) fun i hi => ?_
                  rw [hlen] at hi
                  rw [take_drop_getD hi]
                  have := q5 (off + l * size + i) (by omega)
                  rwa [← Nat.add_assoc, ← Nat.add_assoc] at this
            · cases hx
          · cases hx
        · cases hx
      · split at hx
        · rename_i k off hp
          obtain ⟨b, hb, ha⟩ := plc_ok s hp
          split at hx
          · rename_i cs hk
            obtain ⟨ca, h1, h2, h3, h4⟩ := at_box s hk hb
            split at hx
            · rename_i hle
              split at hx
              · rename_i hh hb1
                split at hx
                · rename_i l hb2
                  injection hx with hx; injection hx with e1 e2; subst e1 e2
                  have g1 := bound_ok s hb1
                  have g2 := bound_ok s hb2
                  refine Sound.plain (a := .slice (some ⟨b, off + l * size, none⟩) (hh - l) size) ?_ Fr.refl s rfl (.inr ⟨b, hb, rfl⟩)
                  simp only [aOp, ha, h2]
                  rw [if_pos (by omega), g1]
                  simp only
                  rw [g2]
                · cases hx
              · cases hx
            · cases hx
          · cases hx
        · cases hx
    case fieldAddr off x =>
      obtain ⟨rfl, hr, b, o, q1, q2⟩ := path_sound s (g := fun o => o + off) hx (fun _ _ => by omega)
      exact Sound.plain (by simp only [aOp, q1]) Fr.refl s hr q2
    case field n off x =>
      cases n with
      | none =>
        simp only at hx
        split at hx
        · rename_i cs he
          rw [Option.map_eq_some_iff] at hx
          obtain ⟨p, hp, hx⟩ := hx
          injection hx with e1 e2; subst e1 e2
          obtain ⟨as, e, f⟩ := fr_agg (ev_val s he)
          obtain ⟨q1, q2⟩ := cellP_ok hp
          have := f.2 off q1
          rw [q2] at this
          exact Sound.plain (by simp only [aOp, e]; rw [getD_lt (d := Go.undef) (by rw [← f.1]; exact q1)]; rfl) Fr.refl s rfl this
        · cases hx
      | some m =>
        simp only at hx
        split at hx
        · rename_i cs he
          injection hx with hx; injection hx with e1 e2; subst e1 e2
          obtain ⟨as, e, f⟩ := fr_agg (ev_val s he)
          exact Sound.plain (by simp only [aOp, e]) Fr.refl s rfl (frs_agg (frs_take (frs_drop f off) m))
        · cases hx
    case idxAddrArr n size x i =>
      split at hx
      · rename_i k j hi
        split at hx
        · rename_i hc
          obtain ⟨e, _⟩ := ev_sc s hi
          obtain ⟨rfl, hr, b, o, q1, q2⟩ := path_sound s (g := fun o => o + j.toNat * size) hx (fun _ _ => by omega)
          exact Sound.plain (by simp only [aOp, q1, e]; rw [if_pos hc]) Fr.refl s hr q2
        · cases hx
      · cases hx
    case idxAddrSl size x i =>
      split at hx
      · rename_i k j hi
        obtain ⟨e, _⟩ := ev_sc s hi
        split at hx
        · rename_i n cs he
          split at hx
          · rename_i hc
            injection hx with hx; injection hx with e1 e2; subst e1 e2
            have hfr := ev_val s he
            have hsla := fr_sl hfr
            rcases hsla with ⟨h0, _⟩ | ⟨b, o, s', ro, ca, e2, e3, e4, e5, e6⟩
            · omega
            · rw [e2] at hfr
              have hNb : ¬ NF M β b := by
                cases hfr with
                | slE => omega
                | sl n s cs b o ro ca hn' _ _ _ _ => exact hn'
              have hss : s' = size := by
                have : n * s' = n * size := by omega
                exact Nat.eq_of_mul_eq_mul_left (by omega) this
              subst hss
              refine Sound.plain (a := .pointer (some ⟨b, o + j.toNat * s', none⟩)) ?_ Fr.refl s rfl ⟨b, o, ro, ca, rfl, hNb, e3, e5, e6⟩
              simp only [aOp, e2, e]
              rw [if_pos ⟨trivial, hc.1, hc.2.1⟩]
          · cases hx
        · split at hx
          · rename_i k' c off n s' hp
            split at hx
            · rename_i hc
              injection hx with hx; injection hx with e1 e2; subst e1 e2
              rcases plcS_ok s hp with ⟨_, h0, _⟩ | ⟨b, hb, e2⟩
              · omega
              · refine Sound.plain (a := .pointer (some ⟨b, off + j.toNat * size, none⟩)) ?_ Fr.refl s rfl ⟨b, hb, rfl⟩
                simp only [aOp, e2, e]
                rw [if_pos ⟨hc.2.2, hc.1, hc.2.1⟩]
            · cases hx
          · cases hx
      · cases hx
    case idxArr n size m x i =>
      cases m with
      | none =>
        simp only at hx
        split at hx
        · rename_i cs k j he hi
          obtain ⟨e, _⟩ := ev_sc s hi
          split at hx
          · rename_i hc
            rw [Option.map_eq_some_iff] at hx
            obtain ⟨p, hp, hx⟩ := hx
            injection hx with e1 e2; subst e1 e2
            obtain ⟨as, e2, f⟩ := fr_agg (ev_val s he)
            obtain ⟨q1, q2⟩ := cellP_ok hp
            have := f.2 _ q1
            rw [q2] at this
            exact Sound.plain (by simp only [aOp, e2, e]; rw [if_pos hc, getD_lt (d := Go.undef) (by rw [← f.1]; exact q1)]; rfl) Fr.refl s rfl this
          · cases hx
        · cases hx
      | some m =>
        simp only at hx
        split at hx
        · rename_i cs k j he hi
          obtain ⟨e, _⟩ := ev_sc s hi
          split at hx
          · rename_i hc
            injection hx with hx; injection hx with e1 e2; subst e1 e2
            obtain ⟨as, e2, f⟩ := fr_agg (ev_val s he)
            exact Sound.plain (by simp only [aOp, e2, e]; rw [if_pos hc]) Fr.refl s rfl (frs_agg (frs_take (frs_drop f _) m))
          · cases hx
        · cases hx
    case append size bytes x y => exact app_sound s hx
    case copy size x y => exact copy_sound s hx
    case func fn first caps =>
      cases fn <;> first | (cases hx; done) | skip
      cases first <;> first | (cases hx; done) | skip
      rename_i f
      simp only [Option.map_eq_some_iff] at hx
      obtain ⟨l, hl, hx⟩ := hx
      injection hx with e1 e2; subst e1 e2
      have key : ∀ {cs : List Operand} {l : List (Nat ⊕ PV)}, capsW t cs = some l → l.length = cs.length ∧ ∀ j, j < l.length → CapR β h (NF M β) (l.getD j (.inl 0)) ((cs.map (Ev tA)).getD j Go.undef) := by
        intro cs
        induction cs with
        | nil => intro l hl; simp only [capsW] at hl; injection hl with hl; subst hl; exact ⟨rfl, by simp⟩
        | cons x cs ih =>
          intro l hl
          simp only [capsW] at hl
          split at hl
          · cases hl
          · rename_i r hr
            obtain ⟨i1, i2⟩ := ih hr
            have fin : ∀ c, CapR β h (NF M β) c (Ev tA x) → l = c :: r → l.length = (x :: cs).length ∧ ∀ j, j < l.length → CapR β h (NF M β) (l.getD j (.inl 0)) (((x :: cs).map (Ev tA)).getD j Go.undef) := by
              intro c hc he
              subst he
              refine ⟨by simp [i1], fun j hj => ?_⟩
              cases j with
              | zero => exact hc
              | succ j => exact i2 j (by simpa using hj)
            split at hl
            · rename_i k hp
              split at hl
              · rename_i bs hk
                injection hl with hl
                exact fin (.inl k) (plc_ok s hp) hl.symm
              · cases hl
            · cases hl
            · split at hl
              · rename_i p hv
                injection hl with hl
                exact fin (.inr p) (ev_val s hv) hl.symm
              · cases hl
      obtain ⟨k1, k2⟩ := key hl
      exact Sound.plain (a := .func (.func f) #[] (caps.map (Ev tA)).toArray) (by simp only [aOp]; rfl) Fr.refl s rfl ⟨_, rfl, by simpa using k1, by simpa using k2⟩
    case extract x i =>
      split at hx
      · rename_i k
        have htr := s.tr k
        split at hx
        · rename_i l hk
          rw [hk] at htr
          obtain ⟨as, e, hl, hc⟩ := htr
          split at hx
          · rename_i p hp
            injection hx with hx; injection hx with e1 e2; subst e1 e2
            obtain ⟨q1, q2⟩ := cellC_ok hp
            have := hc i q1
            rw [q2] at this
            exact Sound.plain (by simp only [aOp, Ev, e]; rw [getD_lt (d := Go.undef) (by rw [Array.length_toList, ← hl]; exact q1)]; rfl) Fr.refl s rfl this
          · rename_i n s' cs hp
            injection hx with hx; injection hx with e1 e2; subst e1 e2
            obtain ⟨q1, q2⟩ := cellC_ok hp
            have hown := hc i q1
            rw [q2] at hown
            let keep : Option Nat → Bool := fun c => decide (c ≠ some i)
            have hkeep : keep none = true := rfl
            have hX : ∀ b, (False ∨ ∃ c, keep c = false ∧ β k c = some b) ↔ β k (some i) = some b := by
              intro b
              constructor
              · rintro (hf | ⟨c, h1, h2⟩)
                · exact hf.elim
                · have : c = some i := by simpa [keep] using h1
                  rw [← this]; exact h2
              · intro hb
                exact .inr ⟨some i, by simp [keep], hb⟩
            have hsub : ∀ k' c b, setB β k (fun c => if keep c then β k c else none) k' c = some b → β k' c = some b := sub_setB (fun c b hb => by split at hb; exact hb; cases hb)
            have hnf : ∀ b, NF (fun b => M b ∨ (False ∨ ∃ c, keep c = false ∧ β k c = some b)) (setB β k fun c => if keep c then β k c else none) b → NF M β b := by
              rintro b ((hm | hx) | ⟨k', c, hc⟩)
              · exact .inl hm
              · exact .inr ⟨k, some i, (hX b).1 hx⟩
              · exact .inr ⟨k', c, hsub _ _ _ hc⟩
            have hs := s.set0.drop k keep (.tup (l.set i .gone)) ?_ (klC k) (fun i u a hi hu => klC_tr (by simp [hkeep]) hi hu)
            · refine Sound.root (by simp only [aOp, Ev, e]; rw [getD_lt (d := Go.undef) (by rw [Array.length_toList, ← hl]; exact q1)]; rfl) (Fr.less fun k c b hb => ⟨_, _, hsub _ _ _ hb⟩) hs (fun c => if c = none then β k (some i) else none) ?_ ?_ ?_ rfl ?_
              · intro c b hb
                split at hb
                · exact ⟨(hX b).2 hb, (s.lt _ _ _ hb).2⟩
                · cases hb
              · intro c c' b h1 h2
                split at h1 <;> split at h2 <;> simp_all
              · intro b hb
                exact .inr ⟨k, some i, (hX b).1 hb⟩
              · exact OwnAt.keep hown (Keeps.less hnf) (fun _ _ => rfl)
            · refine ⟨as, e, by rw [List.length_set]; exact hl, fun j hj => ?_⟩
              rw [setB_same]
              have hc' : ∀ j, j < l.length → CVR (β k) h (NF (fun b => M b ∨ False) β) j (l.getD j .gone) (as.toList.getD j Go.undef) := by simpa using hc
              have := cvr_set1 (j := i) (c := .gone) hc' trivial j hj
              cases hci : (l.set i CV.gone).getD j .gone with
              | v p => rw [hci] at this; exact this
              | gone => trivial
              | o n s cs =>
                rw [hci] at this
                have hne : j ≠ i := by
                  intro he
                  subst he
                  rw [List.length_set] at hj
                  simp [List.getD, hj] at hci
                simp only [CVR] at this ⊢
                have e : (if keep (some j) = true then β k (some j) else none) = β k (some j) := by rw [if_pos (by simpa [keep] using hne)]
                rw [e]; exact this
          · cases hx
        · cases hx
      · cases hx
    all_goals cases hx

end
end Go.Wb

/- The value machine: calls, code; with fuel. -/
namespace Go.Wb
open Go

structure WOper where
  dst : Option Tmp
  r : Bool
  op : AOp
  guard : Option (Tmp × Bool)
  ann : List (Nat × Nat)
  io : List Nat

def WOper.a (o : WOper) : AOper := ⟨o.dst, o.op, o.guard⟩

inductive WCode where
  | skip
  | ops (l : List WOper)
  | drawn (l : List WOper) (pairs : List (Nat × Nat))
  | seq (a b : WCode)
  | cond (c : Operand) (x y : WCode)
  | block (id : Nat) (b : WCode)
  | loop (vs : List Nat) (b : WCode)
  | exit (vs : List Nat) (id : Nat)
  | ret (vs : List Nat)
  | cut (vs : List Nat) (b : WCode)

def WCode.erase : WCode → ACode
  | .skip => .skip
  | .ops l => .ops (l.map WOper.a)
  | .drawn l ps => .drawn (l.map WOper.a) ps
  | .seq a b => .seq a.erase b.erase
  | .cond c x y => .cond c x.erase y.erase
  | .block id b => .block id b.erase
  | .loop _ b => .loop b.erase
  | .exit _ id => .exit id
  | .ret _ => .ret
  | .cut _ b => b.erase

/-- Where what closures took with them stands in a callee's temporaries. -/
def hidB : Nat := 100000

abbrev RW := List CV × List AV × List (List CV)
abbrev CallFW := String → List AV → List (List CV) → Option RW

def tvA : AV → TV
  | .v p => .val p
  | .box cs => .box cs
  | .own n s cs => .own n s cs
  | .clo f caps => .clo f caps

def hidT : Nat → List (List CV) → TT
  | _, [] => botT
  | i, cs :: l => updT (hidT (i + 1) l) i (.hbox cs)

def argTT' : Nat → List AV → TT → TT
  | _, [], t => t
  | i, a :: l, t => updT (argTT' (i + 1) l t) i (tvA a)

def argTT (avs : List AV) (hids : List (List CV)) : TT := argTT' 0 avs (hidT hidB hids)

def renum : Nat → List (Nat ⊕ PV) → List (Nat ⊕ PV)
  | _, [] => []
  | i, .inl _ :: l => .inl (hidB + i) :: renum (i + 1) l
  | i, .inr p :: l => .inr p :: renum i l

def rootsOf : List (Nat ⊕ PV) → List Nat
  | [] => []
  | .inl k :: l => k :: rootsOf l
  | .inr _ :: l => rootsOf l

/-- One argument: what is handed over, which root is lent, which roots go with a closure, which slice of one's own is only read. -/
def arg1 (io : Bool) (hn : Nat) (t : TT) (x : Operand) : Option (AV × Option Nat × List Nat × Option (Nat × Option Nat)) :=
  match EvT t x with
  | .clo f caps => some (.clo f (renum hn caps), none, rootsOf caps, none)
  | .val p => some (.v p, none, [], none)
  | _ => match plc t x with
    | some (k, none, 0) => match t k with
      | .box cs => some (.box cs, some k, [], none)
      | _ => none
    | some _ => none
    | none => match plcS t x with
      | some (k, c, off, n, s) =>
        if io then match c, off, t k with
          | none, 0, .own n' s' cs => if n = n' ∧ s = s' then some (.own n s cs, some k, [], none) else none
          | _, _, _ => none
        else (slv t x).map fun y => (.v (.sl y.1 y.2), none, [], some (k, c))
      | none => none

structure Args where
  avs : List AV
  ds : List (Nat × Nat)
  hs : List Nat
  bos : List (Nat × Option Nat)

def argsW (io : List Nat) (t : TT) : Nat → Nat → List Operand → Option Args
  | _, _, [] => some ⟨[], [], [], []⟩
  | j, hn, x :: l => match arg1 (io.contains j) hn t x with
    | none => none
    | some (av, d, hs, bo) => match argsW io t (j + 1) (hn + hs.length) l with
      | none => none
      | some r => some ⟨av :: r.avs, (match d with | some k => (j, k) :: r.ds | none => r.ds), hs ++ r.hs, (match bo with | some b => b :: r.bos | none => r.bos)⟩

def nodupN : List Nat → Bool
  | [] => true
  | k :: l => !l.contains k && nodupN l

def boxC (t : TT) (k : Nat) : Option (List CV) :=
  match t k with
  | .box cs => some cs
  | .hbox cs => some cs
  | _ => none

def boxesC (t : TT) : List Nat → Option (List (List CV))
  | [] => some []
  | k :: l => match boxC t k, boxesC t l with
    | some cs, some r => some (cs :: r)
    | _, _ => none

mutual
/-- Does a value hold memory? -/
def hasRef : PV → Bool
  | .sc _ => false
  | .agg cs => hasRefs cs
  | .sl _ _ => true
def hasRefs : List PV → Bool
  | [] => false
  | p :: l => hasRef p || hasRefs l
end

def refC : CV → Bool
  | .v p => hasRef p
  | .o _ _ cs => hasRefs cs
  | .gone => false

def refCs (cs : List CV) : Bool := cs.any refC

def refA : AV → Bool
  | .v _ => false
  | .box cs => refCs cs
  | .own _ _ cs => hasRefs cs
  | .clo .. => false

def refRW (r : RW) : Bool := refCs r.1 || r.2.1.any refA || r.2.2.any refCs

def isOwnV (c : Option Nat) (v : TV) : Bool :=
  match c, v with
  | none, .own .. => true
  | some j, .box bs => match cellC bs j with
    | some (.o ..) => true
    | _ => false
  | _, _ => false

def isOwnB (t : TT) (b : Nat × Option Nat) : Bool := isOwnV b.2 (t b.1)

/-- A slice of one's own that is written no more. -/
def frz1 (t : TT) : Nat × Option Nat → TT
  | (k, none) => match t k with
    | .own n _ cs => setR t k (.val (.sl n cs))
    | _ => t
  | (k, some j) => match t k with
    | .box bs => match cellC bs j with
      | some (.o n _ cs) => setC t k (.box (bs.set j (.v (.sl n cs))))
      | _ => t
    | _ => t

def frzs : List (Nat × Option Nat) → TT → TT
  | [], t => t
  | b :: l, t => frzs l (frz1 t b)

def backH (old : TV) (cs : List CV) : TV :=
  match old with
  | .hbox _ => .hbox cs
  | _ => .box cs

/-- What is given back. -/
def backTV (old : TV) : AV → Option TV
  | .box cs => some (backH old cs)
  | .own n s cs => match old with
    | .own n' s' _ => if n = n' ∧ s = s' then some (.own n s cs) else none
    | _ => none
  | _ => none

def backs (outs : List AV) : List (Nat × Nat) → TT → Option TT
  | [], t => some t
  | (j, k) :: l, t => match outs[j]? with
    | some a => match backTV (t k) a, backs outs l t with
      | some v, some t' => some (setC t' k v)
      | _, _ => none
    | none => none

def backHs : List (List CV) → List Nat → TT → Option TT
  | [], [], t => some t
  | cs :: l, k :: ks, t => (backHs l ks t).map fun t' => setC t' k (backH (t k) cs)
  | _, _, _ => none

def resTV : List CV → TV
  | [c] => tvC c
  | l => .tup l

/-- Behind a call. -/
def afterW (t : TT) (a : Args) (r : RW) : Option (TV × TT) :=
  match (if a.bos.isEmpty then some t else if refRW r then (if a.bos.all (isOwnB t) then some (frzs a.bos t) else none) else some t) with
  | none => none
  | some t1 => match backHs r.2.2 a.hs t1 with
    | none => none
    | some t2 => (backs r.2.1 a.ds t2).map fun t3 => (resTV r.1, t3)

def callW (call : CallFW) (f : String) (io : List Nat) (args : List Operand) (t : TT) : Option (TV × TT) :=
  match argsW io t 0 0 args with
  | none => none
  | some a => if decide (a.avs.length ≤ hidB) && nodupN (a.ds.map (·.2) ++ a.hs) && a.bos.all (fun b => !(a.ds.map (·.2) ++ a.hs).contains b.1) then
      match boxesC t a.hs with
      | none => none
      | some hc => match call f a.avs hc with
        | some r => afterW t a r
        | none => none
    else none

/-- Captured things, handed over behind the arguments of a dynamic call. -/
def capArgs (t : TT) : Nat → List (Nat ⊕ PV) → Option (List AV × List (Nat × Nat))
  | _, [] => some ([], [])
  | j, .inl k :: l => match boxC t k, capArgs t (j + 1) l with
    | some cs, some (a, d) => some (.box cs :: a, (j, k) :: d)
    | _, _ => none
  | j, .inr p :: l => match capArgs t (j + 1) l with
    | some (a, d) => some (.v p :: a, d)
    | none => none

def dynW (tbl : List (Nat × String)) (call : CallFW) (io : List Nat) (x : Operand) (args : List Operand) (t : TT) : Option (TV × TT) :=
  match (match EvT t x with
    | .clo f caps => some (f, caps)
    | .val (.sc (.func (.func f) _ _)) => some (f, [])
    | _ => none) with
  | none => none
  | some (f, caps) => match tbl.find? (fun e => e.1 == f) with
    | none => none
    | some e => match argsW io t 0 0 args with
      | none => none
      | some a0 => match capArgs t a0.avs.length caps with
        | none => none
        | some (ca, cd) =>
          let a : Args := ⟨a0.avs ++ ca, a0.ds ++ cd, a0.hs, a0.bos⟩
          if decide (a.avs.length ≤ hidB) && nodupN (a.ds.map (·.2) ++ a.hs) && a.bos.all (fun b => !(a.ds.map (·.2) ++ a.hs).contains b.1) then
            match boxesC t a.hs with
            | none => none
            | some hc => match call e.2 a.avs hc with
              | some r => afterW t a r
              | none => none
          else none

def wantedW (g : Option (Tmp × Bool)) (t : TT) : Option Bool :=
  match g with
  | none => some true
  | some (d, w) => match t d with
    | .val (.sc (.bool b)) => some (b == w)
    | .skip => some false
    | _ => none

/-- A part of a new value: a value, or what stands in a slice of one's own, which is written no more. -/
def roV (t : TT) (x : Operand) : Option (PV × Option (Nat × Option Nat)) :=
  match EvT t x with
  | .val p => some (p, none)
  | _ => match plcS t x with
    | some (k, c, _, _, _) => (slv t x).map fun y => (.sl y.1 y.2, some (k, c))
    | none => none

def consO (b : Option (Nat × Option Nat)) (l : List (Nat × Option Nat)) : List (Nat × Option Nat) :=
  match b with
  | some b => b :: l
  | none => l

def fillW (t : TT) : List PV → List (Nat × Nat × Operand) → Option (List PV × List (Nat × Option Nat))
  | cs, [] => some (cs, [])
  | cs, (off, size, x) :: rest => match roV t x with
    | some (p, bo) => if (pvCells p).length = size ∧ off + size ≤ cs.length then (fillW t (cs.take off ++ pvCells p ++ cs.drop (off + size)) rest).map fun r => (r.1, consO bo r.2) else none
    | none => none

def frzIf (t : TT) (bos : List (Nat × Option Nat)) : Option TT := if bos.all (isOwnB t) then some (frzs bos t) else none

def isBld : AOp → Bool
  | .build .. => true
  | .buildSlice .. => true
  | _ => false

def bldW (t : TT) : AOp → Option (TV × TT)
  | .build z ps => match pvCs z with
    | some l => match fillW t l ps with
      | some (cs, bos) => (frzIf t bos).map fun t1 => (.val (.agg cs), t1)
      | none => none
    | none => none
  | .buildSlice size n z ps => match pvCs z with
    | some l => match fillW t (repP n l) ps with
      | some (cs, bos) => if cs.length = n * size then (frzIf t bos).map fun t1 => (.own n size cs, t1) else none
      | none => none
    | none => none
  | _ => none

def evalW (tbl : List (Nat × String)) (call : CallFW) (o : WOper) (t : TT) : Option (TV × TT) :=
  match o.op with
  | .call f args => if f = "@dyn" then match args with
      | x :: args => dynW tbl call o.io x args t
      | [] => none
    else callW call f o.io args t
  | op => if isBld op then bldW t op else opW o.r o.ann op t

def stepW (tbl : List (Nat × String)) (call : CallFW) (o : WOper) (t : TT) : Option TT :=
  match wantedW o.guard t with
  | some true => match evalW tbl call o t with
    | some (v, t') => some (putT t' o.dst v)
    | none => none
  | some false => some (putT t o.dst .skip)
  | none => none

def execW (tbl : List (Nat × String)) (call : CallFW) : List WOper → TT → Option TT
  | [], t => some t
  | o :: l, t => match stepW tbl call o t with
    | some t' => execW tbl call l t'
    | none => none

inductive WFun where
  | code (res : List ARes) (body : WCode)
  | prim (g : List AV → List (List CV) → Option RW)

structure EnvW where
  fn : String → Option WFun
  tbl : List (Nat × String)

def resW (t : TT) : List ARes → Option (List CV)
  | [] => some []
  | .tmp i :: l => match t i, resW t l with
    | .val p, some r => some (.v p :: r)
    | .own n s cs, some r => some (.o n s cs :: r)
    | _, _ => none
  | .cell i none :: l => match t i, resW t l with
    | .box cs, some r => match cellC cs 0 with
      | some (.v p) => some (.v p :: r)
      | some (.o n s l) => some (.o n s l :: r)
      | _ => none
    | _, _ => none
  | .cell i (some m) :: l => match t i, resW t l with
    | .box cs, some r => if m ≤ cs.length then (unv ((cs.map frz).take m)).map fun l => .v (.agg l) :: r else none
    | _, _ => none

def noDstO (j : Nat) (l : List AOper) : Bool := l.all fun o => o.dst != some j
def noDst (j : Nat) : ACode → Bool
  | .skip | .exit _ | .ret => true
  | .ops l => noDstO j l
  | .drawn l _ => noDstO j l
  | .seq a b => noDst j a && noDst j b
  | .cond _ x y => noDst j x && noDst j y
  | .block _ b => noDst j b
  | .loop b => noDst j b

def sameCaps : List (Nat ⊕ PV) → List (Nat ⊕ PV) → Bool
  | [], [] => true
  | .inl k :: l, .inl k' :: l' => k == k' && decide (hidB ≤ k) && sameCaps l l'
  | .inr _ :: l, .inr _ :: l' => sameCaps l l'
  | _, _ => false

/-- What is given back of each argument. -/
def outsW (body : WCode) (t : TT) : Nat → List AV → Option (List AV)
  | _, [] => some []
  | j, .v _ :: l => (outsW body t (j + 1) l).map fun r => .v (.agg []) :: r
  | j, .box _ :: l => if noDst j body.erase then match t j, outsW body t (j + 1) l with
      | .box cs, some r => some (.box cs :: r)
      | _, _ => none
    else none
  | j, .own .. :: l => if noDst j body.erase then match t j, outsW body t (j + 1) l with
      | .own n s cs, some r => some (.own n s cs :: r)
      | _, _ => none
    else none
  | j, .clo _ caps :: l => if noDst j body.erase then match t j, outsW body t (j + 1) l with
      | .clo f' caps', some r => if sameCaps caps caps' then some (.clo f' caps' :: r) else none
      | _, _ => none
    else none

def houtsW (t : TT) : Nat → List (List CV) → Option (List (List CV))
  | _, [] => some []
  | i, _ :: l => match t (hidB + i), houtsW t (i + 1) l with
    | .hbox cs, some r => some (cs :: r)
    | _, _ => none

/-- Are the results' temporaries others than what is given back? -/
def resOk (avs : List AV) : List ARes → Bool
  | [] => true
  | r :: l => (match r with
      | .tmp i => !l.any (fun q => match q with | .tmp j => i == j | .cell j _ => i == j) && (match avs[i]? with | some (.v _) => true | none => decide (i < hidB) | _ => false)
      | .cell i _ => !l.any (fun q => match q with | .tmp j => i == j | .cell j _ => i == j) && (match avs[i]? with | some (.v _) => true | none => decide (i < hidB) | _ => false)) && resOk avs l

def leaveW (res : List ARes) (body : WCode) (avs : List AV) (hids : List (List CV)) (t : TT) : Option RW :=
  if resOk avs res then match resW t res, outsW body t 0 avs, houtsW t 0 hids with
    | some r, some o, some h => some (r, o, h)
    | _, _, _ => none
  else none

def tvO : AV → TV
  | .v _ => .undef
  | a => tvA a

def outTT' : Nat → List AV → TT → TT
  | _, [], t => t
  | i, a :: l, t => updT (outTT' (i + 1) l t) i (tvO a)

/-- What is given back, as temporaries. -/
def outTT (outs : List AV) (houts : List (List CV)) : TT := outTT' 0 outs (hidT hidB houts)

mutual
def callWN (E : EnvW) : Nat → CallFW
  | 0, _, _, _ => none
  | n + 1, f, avs, hids => match E.fn f with
    | none => none
    | some (.prim g) => g avs hids
    | some (.code res body) => match runWN E n body (argTT avs hids) with
      | some (.ret, t) => leaveW res body avs hids t
      | some (.normal, t) => leaveW res body avs hids t
      | _ => none
def runWN (E : EnvW) : Nat → WCode → TT → Option (AExit × TT)
  | 0, _, _ => none
  | n + 1, c, t => match c with
    | .skip => some (.normal, t)
    | .ops l => (execW E.tbl (callWN E n) l t).map fun x => (.normal, x)
    | .drawn l ps => if ps.isEmpty then (execW E.tbl (callWN E n) l t).map fun x => (.normal, x) else none
    | .seq a b => match runWN E n a t with
      | some (.normal, t') => runWN E n b t'
      | r => r
    | .cond c x y => match EvT t c with
      | .val (.sc (.bool true)) => runWN E n x t
      | .val (.sc (.bool false)) => runWN E n y t
      | _ => none
    | .block id b => match runWN E n b t with
      | some (.exit i, t') => if i = id then some (.normal, t') else some (.exit i, t')
      | r => r
    | .loop vs b => match runWN E n b (restr vs t) with
      | some (.normal, t') => runWN E n (.loop vs b) t'
      | r => r
    | .exit vs id => some (.exit id, restr vs t)
    | .ret vs => some (.ret, restr vs t)
    | .cut vs b => runWN E n b (restr vs t)
end

end Go.Wb

/- Calls: what is handed over, and what is given back. -/
namespace Go.Wb
open Go

/-! ### Temporaries that no operation writes -/
theorem put_ne {t : T} {d : Option Tmp} {j : Nat} {v : Value} (h : d ≠ some j) : put t d v j = t j := by
  cases d with
  | none => rfl
  | some k =>
    simp only [put, upd]
    rw [if_neg (fun e => h (by rw [e]))]

theorem stepA_dst {call : CallF} {o : AOper} {t t' : T} {h h' : Heap} {j : Nat} (hx : stepA call o t h = some (t', h')) (hd : o.dst ≠ some j) : t' j = t j := by
  unfold stepA at hx
  split at hx
  · split at hx
    · injection hx with hx; injection hx with e1 e2; subst e1
      exact put_ne hd
    · cases hx
  · injection hx with hx; injection hx with e1 e2; subst e1
    exact put_ne hd

theorem execOps_dst {call : CallF} {j : Nat} : ∀ {l : List AOper} {t t' : T} {h h' : Heap}, execOps call l t h = some (t', h') → noDstO j l = true → t' j = t j
  | [], t, t', h, h', hx, _ => by simp only [execOps] at hx; injection hx with hx; injection hx with e1 e2; subst e1; rfl
  | o :: l, t, t', h, h', hx, hd => by
    simp only [execOps] at hx
    simp only [noDstO, List.all_cons, Bool.and_eq_true] at hd
    split at hx
    · rename_i t1 h1 hs
      rw [execOps_dst hx hd.2, stepA_dst hs (by simpa using hd.1)]
    · cases hx

theorem execLog_dst {call : CallF} {j : Nat} : ∀ {l : List AOper} {t t' : T} {h h' : Heap} {G : List Heap} {L : List LoadRec}, execLog call l t h = some (t', h', G, L) → noDstO j l = true → t' j = t j
  | [], t, t', h, h', G, L, hx, _ => by simp only [execLog] at hx; injection hx with hx; injection hx with e1 e2; subst e1; rfl
  | o :: l, t, t', h, h', G, L, hx, hd => by
    simp only [execLog] at hx
    simp only [noDstO, List.all_cons, Bool.and_eq_true] at hd
    split at hx
    · rename_i t1 h1 hs
      split at hx
      · rename_i t2 h2 G2 L2 hr
        injection hx with hx; injection hx with e1 e2; subst e1
        rw [execLog_dst hr hd.2, stepA_dst hs (by simpa using hd.1)]
      · cases hx
    · cases hx

theorem runN_dst {E : Env} {j : Nat} : ∀ (n : Nat) (c : ACode) (t : T) (h : Heap) (e : AExit) (t' : T) (h' : Heap), runN E n c t h = some (e, t', h') → noDst j c = true → t' j = t j
  | 0, _, _, _, _, _, _, hx, _ => by simp only [runN] at hx; cases hx
  | n + 1, c, t, h, e, t', h', hx, hd => by
    cases c with
    | skip => rw [runN_skip] at hx; injection hx with hx; injection hx with _ hx; injection hx with e1 _; rw [e1]
    | exit id => rw [runN_exit] at hx; injection hx with hx; injection hx with _ hx; injection hx with e1 _; rw [e1]
    | ret => rw [runN_ret] at hx; injection hx with hx; injection hx with _ hx; injection hx with e1 _; rw [e1]
    | ops l =>
      rw [runN_ops, Option.map_eq_some_iff] at hx
      obtain ⟨⟨t1, h1⟩, hx, hy⟩ := hx
      injection hy with _ hy; injection hy with e1 _; subst e1
      exact execOps_dst hx hd
    | drawn l ps =>
      rw [runN_drawn, Option.map_eq_some_iff] at hx
      obtain ⟨⟨t1, h1⟩, hx, hy⟩ := hx
      injection hy with _ hy; injection hy with e1 _; subst e1
      unfold execDrawn at hx
      split at hx
      · rename_i t2 h2 G L hl
        split at hx
        · injection hx with hx; injection hx with e1 _; subst e1
          exact execLog_dst hl hd
        · cases hx
      · cases hx
    | seq a b =>
      simp only [noDst, Bool.and_eq_true] at hd
      rw [runN_seq] at hx
      split at hx
      · rename_i t1 h1 hr
        rw [runN_dst n _ _ _ _ _ _ hx hd.2, runN_dst n _ _ _ _ _ _ hr hd.1]
      · exact runN_dst n _ _ _ _ _ _ hx hd.1
    | cond c x y =>
      simp only [noDst, Bool.and_eq_true] at hd
      rw [runN_cond] at hx
      split at hx
      · exact runN_dst n _ _ _ _ _ _ hx hd.1
      · exact runN_dst n _ _ _ _ _ _ hx hd.2
      · cases hx
    | block id b =>
      rw [runN_block] at hx
      split at hx
      · rename_i i t1 h1 hr
        have := runN_dst n _ _ _ _ _ _ hr hd
        split at hx <;> (injection hx with hx; injection hx with _ hx; injection hx with e1 _; rw [← e1]; exact this)
      · exact runN_dst n _ _ _ _ _ _ hx hd
    | loop b =>
      rw [runN_loop] at hx
      split at hx
      · rename_i t1 h1 hr
        rw [runN_dst n (.loop b) _ _ _ _ _ hx hd, runN_dst n _ _ _ _ _ _ hr hd]
      · exact runN_dst n _ _ _ _ _ _ hx hd

theorem runA_dst {E : Env} {j : Nat} {c : ACode} {t : T} {h : Heap} {e : AExit} {t' : T} {h' : Heap} (hx : runA E c t h = some (e, t', h')) (hd : noDst j c = true) : t' j = t j := by
  obtain ⟨n, hn⟩ := runA_iff.1 hx
  exact runN_dst n _ _ _ _ _ _ hn hd

section
variable {M : Nat → Prop} {β : Bt} {h : Heap} {t : TT} {tA : T}

theorem restr_at : ∀ (vs : List Nat) (t : TT) (i : Nat), restr vs t i = t i ∨ restr vs t i = .undef
  | [], t, i => .inr rfl
  | v :: vs, t, i => by
    simp only [restr, updT]
    split
    · rename_i hi; subst hi; exact .inl rfl
    · exact restr_at vs t i

theorem SR.part (s : SR M β h t tA) {t' : TT} (ht : ∀ i, t' i = t i ∨ t' i = .undef) : SR M β h t' tA := by
  refine ⟨fun i => ?_, s.inj, s.lt, s.mlt⟩
  rcases ht i with e | e
  · rw [e]; exact s.tr i
  · rw [e]; trivial

theorem SR.restr (s : SR M β h t tA) (vs : List Nat) : SR M β h (restr vs t) tA := s.part (restr_at vs t)

/-! ### What holds no memory -/
mutual
theorem fr_noRef {N N' : Nat → Prop} {h' : Heap} : ∀ (p : PV) (a : Value), hasRef p = false → FR h N p a → FR h' N' p a
  | .sc v, a, _, hf => by cases hf with | sc v hv => exact .sc _ hv
  | .agg cs, a, hr, hf => by
    obtain ⟨as, rfl, h1⟩ := fr_agg hf
    have h2 := frs_noRef (N' := N') (h' := h') cs as.toList (by simpa only [hasRef] using hr) h1
    exact .agg _ _ (by rw [h2.1, Array.length_toList]) h2.2
  | .sl _ _, a, hr, _ => by simp [hasRef] at hr
theorem frs_noRef {N N' : Nat → Prop} {h' : Heap} : ∀ (cs : List PV) (ca : List Value), hasRefs cs = false → FRs h N cs ca → FRs h' N' cs ca
  | [], ca, _, hf => ⟨hf.1, by simp⟩
  | p :: l, ca, hr, hf => by
    simp only [hasRefs, Bool.or_eq_false_iff] at hr
    cases ca with
    | nil => have := hf.1; simp at this
    | cons c ca =>
      have h0 := hf.2 0 (by simp)
      have h1 := fr_noRef (N' := N') (h' := h') p c hr.1 (by simpa using h0)
      have h2 := frs_noRef (N' := N') (h' := h') l ca hr.2 ⟨by simpa using hf.1, fun i hi => by simpa using hf.2 (i + 1) (by simpa using hi)⟩
      refine ⟨hf.1, fun i hi => ?_⟩
      cases i with
      | zero => exact h1
      | succ i => exact h2.2 i (by simpa using hi)
end

theorem cvr_noRef {β' : Option Nat → Option Nat} {N N' : Nat → Prop} {j : Nat} {c : CV} {a : Value} (hr : refC c = false) (hc : CVR β' h N j c a) : CVR β' h N' j c a := by
  cases c with
  | v p => exact fr_noRef p a hr hc
  | gone => trivial
  | o n s cs =>
    rcases hc with hc | ⟨b, ca, h1, h2, h3, h4, h5⟩
    · exact .inl hc
    · exact .inr ⟨b, ca, h1, h2, h3, h4, frs_noRef cs ca hr h5⟩

/-! ### Slices of one's own that are written no more -/
theorem isOwnV_kl {c : Option Nat} {k : Nat} {v : TV} : isOwnV c (kl k v) = isOwnV c v := by
  cases v <;> (try rfl) <;> simp only [kl] <;> split <;> cases c <;> rfl

theorem isOwnV_klC {c : Option Nat} {k : Nat} {v : TV} : isOwnV c (klC k v) = isOwnV c v := by
  cases v <;> (try rfl)
  · rename_i k' c' off
    cases c' <;> simp only [klC] <;> (try rfl)
    split <;> cases c <;> rfl
  · rename_i k' c' off n s
    cases c' <;> simp only [klC] <;> (try rfl)
    split <;> cases c <;> rfl

/-- What freezing leaves. -/
structure Frozen (M : Nat → Prop) (β : Bt) (h : Heap) (t : TT) (tA : T) (k : Nat) (c : Option Nat) (t' : TT) (β1 : Bt) : Prop where
  sr : SR M β1 h t' tA
  sub : ∀ k c x, β1 k c = some x → β k c = some x
  gone : ∀ x, β k c = some x → ∀ k' c', β1 k' c' ≠ some x
  at_ : ∀ k', k' ≠ k → t' k' = kl k (t k') ∨ t' k' = klC k (t k')
  own : ∀ b, b ≠ (k, c) → isOwnB t' b = isOwnB t b
  keep : ∀ k' c', k' ≠ k → β1 k' c' = β k' c'

theorem frz_own (s : SR M β h t tA) {k n s' : Nat} {cs : List PV} (hk : t k = .own n s' cs) : ∃ β1, Frozen M β h t tA k none (setR t k (.val (.sl n cs))) β1 := by
  have q : ∃ β1, SR M β1 h (setR t k (.val (.sl n cs))) tA ∧ (∀ k c x, β1 k c = some x → β k c = some x) ∧ (∀ x, β k none = some x → ∀ k' c', β1 k' c' ≠ some x) ∧ (∀ k' c', k' ≠ k → β1 k' c' = β k' c') ∧ (∀ k', k' ≠ k → setR t k (.val (.sl n cs)) k' = t k' ∨ setR t k (.val (.sl n cs)) k' = kl k (t k') ∨ True) := by
    have htr := s.tr k
    rw [hk] at htr
    have s1 := (s.dropR k).weak
    refine ⟨setB β k fun _ => none, ?_, sub_setB (by simp), ?_, fun k' c' hk' => by rw [setB_ne hk'], fun k' hk' => .inr (.inl (by unfold setR; rw [if_neg hk']))⟩
    · have s2 := s1.upd (d := k) (v := .val (.sl n cs)) (a := tA k) ?_
      · rw [upd_self] at s2
        have e : updT (setR t k .undef) k (.val (.sl n cs)) = setR t k (.val (.sl n cs)) := by
          funext i; unfold updT setR; split <;> simp_all
        rw [e] at s2; exact s2
      · rcases htr with ⟨_, rfl, rfl, e⟩ | ⟨b, ca, e1, e2, e3, e4, e5⟩
        · rw [e]; exact FR.slNil
        · rw [e2]
          refine FR.sl n s' cs b 0 false ca ?_ e3 e4 (by rw [e5.1]; omega) fun i hi => ?_
          · rintro (hm | ⟨k', c', hc⟩)
            · exact (s.lt _ _ _ e1).2 hm
            · unfold setB at hc
              split at hc
              · cases hc
              · rename_i hne
                exact hne (s.inj _ _ _ _ _ hc e1).1
          · rw [Nat.zero_add]
            refine (e5.2 i hi).keep (Keeps.less ?_)
            rintro b' (hm | ⟨k', c', hc⟩)
            · exact .inl hm
            · exact .inr ⟨_, _, sub_setB (by simp) _ _ _ hc⟩
    · intro x hx k' c' hc
      unfold setB at hc
      split at hc
      · cases hc
      · rename_i hne
        exact hne (s.inj _ _ _ _ _ hc hx).1
  obtain ⟨β1, h1, h2, h3, h4, _⟩ := q
  refine ⟨β1, h1, h2, h3, fun k' hk' => .inl (by unfold setR; rw [if_neg hk']), fun b hb => ?_, h4⟩
  obtain ⟨k', c⟩ := b
  by_cases hk' : k' = k
  · subst hk'
    cases c with
    | none => exact absurd rfl hb
    | some j => simp [isOwnB, isOwnV, setR, hk]
  · have e : setR t k (.val (.sl n cs)) k' = kl k (t k') := by unfold setR; rw [if_neg hk']
    simp only [isOwnB, e]
    exact isOwnV_kl

theorem frz_cell (s : SR M β h t tA) {k j n s' : Nat} {bs : List CV} {cs : List PV} (hk : t k = .box bs) (hj : cellC bs j = some (.o n s' cs)) : ∃ β1, Frozen M β h t tA k (some j) (setC t k (.box (bs.set j (.v (.sl n cs))))) β1 := by
  have q : ∃ β1, SR M β1 h (setC t k (.box (bs.set j (.v (.sl n cs))))) tA ∧ (∀ k c x, β1 k c = some x → β k c = some x) ∧ (∀ x, β k (some j) = some x → ∀ k' c', β1 k' c' ≠ some x) ∧ (∀ k' c', k' ≠ k → β1 k' c' = β k' c') ∧ (∀ k', k' ≠ k → setC t k (.box (bs.set j (.v (.sl n cs)))) k' = t k' ∨ True ∨ setC t k (.box (bs.set j (.v (.sl n cs)))) k' = klC k (t k')) := by
    have htr := s.tr k
    rw [hk] at htr
    obtain ⟨b0, ca0, g1, g2, g3, g4, g5⟩ := htr
    obtain ⟨hjl, hown⟩ := cell_own g5 hj
    let keep : Option Nat → Bool := fun c => decide (c ≠ some j)
    have hkeep : keep none = true := rfl
    have s1 := (s.set0.drop k keep .undef trivial (klC k) (fun i u a hi hu => klC_tr (by simp [hkeep]) hi hu)).weak
    have hsub : ∀ k' c b, setB β k (fun c => if keep c then β k c else none) k' c = some b → β k' c = some b := sub_setB (fun c b hb => by split at hb; exact hb; cases hb)
    have hgone : ∀ x, β k (some j) = some x → ∀ k' c', setB β k (fun c => if keep c then β k c else none) k' c' ≠ some x := by
      intro x hx k' c' hc
      obtain ⟨e1, e2⟩ := s.inj _ _ _ _ _ (hsub _ _ _ hc) hx
      subst e1 e2
      unfold setB at hc
      rw [if_pos rfl] at hc
      simp [keep] at hc
    have hnf : ∀ b, NF M (setB β k fun c => if keep c then β k c else none) b → NF M β b := by
      rintro b (hm | ⟨k', c, hc⟩)
      · exact .inl hm
      · exact .inr ⟨k', c, hsub _ _ _ hc⟩
    refine ⟨_, ?_, hsub, fun x hx => hgone x hx, fun k' c' hk' => by rw [setB_ne hk'], fun k' hk' => .inr (.inr (by unfold setC; rw [if_neg hk']))⟩
    have s2 := s1.upd (d := k) (v := .box (bs.set j (.v (.sl n cs)))) (a := tA k) ?_
    · rw [upd_self] at s2
      have e : updT (fun i => if i = k then TV.undef else klC k (t i)) k (.box (bs.set j (.v (.sl n cs)))) = setC t k (.box (bs.set j (.v (.sl n cs)))) := by
        funext i; unfold updT setC; split <;> simp_all
      rw [e] at s2; exact s2
    · refine ⟨b0, ca0, by rw [setB_same]; simpa [hkeep] using g1, g2, g3, by rw [List.length_set]; exact g4, ?_⟩
      rw [setB_same]
      intro i' hi'
      rw [List.length_set] at hi'
      by_cases h1 : j = i'
      · subst h1
        have e : (bs.set j (.v (.sl n cs))).getD j .gone = .v (.sl n cs) := by simp [List.getD, hi']
        rw [e]
        rcases hown with ⟨_, rfl, rfl, ee⟩ | ⟨b, ca, e1, e2, e3, e4, e5⟩
        · simp only [CVR]; rw [ee]; exact FR.slNil
        · simp only [CVR]; rw [e2]
          refine FR.sl n s' cs b 0 false ca ?_ e3 e4 (by rw [e5.1]; omega) fun i hi => ?_
          · rintro (hm | ⟨k', c', hc⟩)
            · exact (s.lt _ _ _ e1).2 hm
            · exact hgone b e1 _ _ hc
          · rw [Nat.zero_add]
            exact (e5.2 i hi).keep (Keeps.less hnf)
      · have e : (bs.set j (.v (.sl n cs))).getD i' .gone = bs.getD i' .gone := by simp only [List.getD_eq_getElem?_getD, List.getElem?_set_ne h1]
        rw [e]
        have q := (g5 i' hi').keep (Keeps.less hnf) (fun _ _ => rfl)
        cases hci : bs.getD i' .gone with
        | v p => rw [hci] at q; exact q
        | gone => trivial
        | o n2 s2 cs2 =>
          rw [hci] at q
          simp only [CVR] at q ⊢
          have e : (if keep (some i') = true then β k (some i') else none) = β k (some i') := by rw [if_pos (by simpa [keep] using Ne.symm h1)]
          rw [e]; exact q
  obtain ⟨β1, h1, h2, h3, h4, _⟩ := q
  refine ⟨β1, h1, h2, h3, fun k' hk' => .inr (by unfold setC; rw [if_neg hk']), fun b hb => ?_, h4⟩
  obtain ⟨k', c⟩ := b
  by_cases hk' : k' = k
  · subst hk'
    have e : setC t k' (.box (bs.set j (.v (.sl n cs)))) k' = .box (bs.set j (.v (.sl n cs))) := by unfold setC; rw [if_pos rfl]
    cases c with
    | none => simp [isOwnB, isOwnV, e, hk]
    | some j' =>
      have hne : j ≠ j' := fun he => hb (by rw [he])
      simp only [isOwnB, isOwnV, e, hk, cellC, List.getElem?_set_ne hne]
  · have e : setC t k (.box (bs.set j (.v (.sl n cs)))) k' = klC k (t k') := by unfold setC; rw [if_neg hk']
    simp only [isOwnB, e]
    exact isOwnV_klC

theorem frz1_not {b : Nat × Option Nat} (hb : isOwnB t b = false) : frz1 t b = t := by
  obtain ⟨k, c⟩ := b
  cases c with
  | none =>
    simp only [frz1]
    unfold isOwnB isOwnV at hb
    split
    · rename_i hk
      simp only [hk] at hb
      cases hb
    · rfl
  | some j =>
    simp only [frz1]
    unfold isOwnB isOwnV at hb
    split
    · rename_i bs hk
      simp only [hk] at hb
      split
      · rename_i hj
        simp only [hj] at hb
        cases hb
      · rfl
    · rfl

theorem frz1_sr (s : SR M β h t tA) {b : Nat × Option Nat} (hb : isOwnB t b = true) : ∃ β1, Frozen M β h t tA b.1 b.2 (frz1 t b) β1 := by
  obtain ⟨k, c⟩ := b
  unfold isOwnB isOwnV at hb
  split at hb
  · rename_i hc hk
    simp only at hc hk
    subst hc
    simp only [frz1, hk]
    exact frz_own s hk
  · rename_i j bs hc hk
    simp only at hc hk
    subst hc
    split at hb
    · rename_i hj
      simp only [frz1, hk, hj]
      exact frz_cell s hk hj
    · cases hb
  · cases hb

theorem frzs_sr : ∀ (bos : List (Nat × Option Nat)) {β : Bt} {t : TT}, SR M β h t tA → ∃ βf, SR M βf h (frzs bos t) tA ∧ (∀ k c x, βf k c = some x → β k c = some x) ∧ (∀ k c x, (k, c) ∈ bos → isOwnB t (k, c) = true → β k c = some x → ∀ k' c', βf k' c' ≠ some x) ∧
    (∀ k, (∀ b ∈ bos, b.1 ≠ k) → (∀ cs, t k = .box cs → frzs bos t k = .box cs) ∧ (∀ cs, t k = .hbox cs → frzs bos t k = .hbox cs) ∧ (∀ n s cs, t k = .own n s cs → frzs bos t k = .own n s cs) ∧ ∀ c, βf k c = β k c)
  | [], β, t, s => ⟨β, s, fun _ _ _ hx => hx, fun k c x hm => by simp at hm, fun k _ => ⟨fun _ e => e, fun _ e => e, fun _ _ _ e => e, fun _ => rfl⟩⟩
  | b :: bos, β, t, s => by
    simp only [frzs]
    cases hb : isOwnB t b with
    | false =>
      rw [frz1_not hb]
      obtain ⟨βf, h1, h2, h3, h4⟩ := frzs_sr bos s
      refine ⟨βf, h1, h2, fun k c x hm ho hx => ?_, fun k hk => h4 k fun b' hb' => hk b' (by simp [hb'])⟩
      rcases List.mem_cons.1 hm with e | hm
      · rw [e, hb] at ho; cases ho
      · exact h3 k c x hm ho hx
    | true =>
      obtain ⟨β1, fz⟩ := frz1_sr s hb
      obtain ⟨βf, h1, h2, h3, h4⟩ := frzs_sr bos fz.sr
      refine ⟨βf, h1, fun k c x hx => fz.sub _ _ _ (h2 k c x hx), fun k c x hm ho hx => ?_, fun k hk => ?_⟩
      · by_cases he : (k, c) = b
        · subst he
          intro k' c' hx'
          exact fz.gone x hx k' c' (h2 _ _ _ hx')
        · rcases List.mem_cons.1 hm with e | hm
          · exact absurd e he
          · have ho' : isOwnB (frz1 t b) (k, c) = true := by rw [fz.own (k, c) (fun e => he e)]; exact ho
            intro k' c' hx'
            have g1 := h2 _ _ _ hx'
            obtain ⟨e1, e2⟩ := s.inj _ _ _ _ _ (fz.sub _ _ _ g1) hx
            subst e1 e2
            exact h3 _ _ x hm ho' g1 _ _ hx'
      · have hne : k ≠ b.1 := Ne.symm (hk b (by simp))
        obtain ⟨g1, g2, g3, g4⟩ := h4 k fun b' hb' => hk b' (by simp [hb'])
        refine ⟨fun cs e => g1 cs ?_, fun cs e => g2 cs ?_, fun n s' cs e => g3 n s' cs ?_, fun c => by rw [g4 c, fz.keep k c hne]⟩ <;> (rcases fz.at_ k hne with q | q <;> rw [q, e] <;> rfl)

end
end Go.Wb

/- New values and slices, with slices of one's own in them. -/
namespace Go.Wb
open Go

section
variable {M : Nat → Prop} {β βf : Bt} {h : Heap} {t t1 : TT} {tA : T} {r : Option (Value × Heap)} {v : TV}

theorem roV_ok (s : SR M β h t tA) {Nc : Nat → Prop} (hN : ∀ b, Nc b → NF M β b) {x : Operand} {p : PV} {bo : Option (Nat × Option Nat)} (hx : roV t x = some (p, bo)) (hb : ∀ k c b, bo = some (k, c) → β k c = some b → ¬ Nc b) :
    FR h Nc p (Ev tA x) := by
  have hk : Keeps h (NF M β) h Nc := Keeps.less hN
  unfold roV at hx
  split at hx
  · rename_i p' he
    injection hx with hx; injection hx with e1 e2
    subst e1 e2
    exact (ev_val s he).keep hk
  · split at hx
    · rename_i k c off n s' hp
      have hpl := plcS_ok s hp
      rw [Option.map_eq_some_iff] at hx
      obtain ⟨⟨n1, cs⟩, hsl, hx⟩ := hx
      injection hx with e1 e2
      subst e1 e2
      rcases slv_ok s hsl with ⟨rfl, rfl, e | ⟨b, o, s', e⟩⟩ | ⟨b, o, s2, ro, ca, e, e3, e4, e5, e6⟩
      · rw [e]; exact FR.slNil
      · rw [e]; exact FR.slE _ _ _
      · rw [e] at hpl ⊢
        rcases hpl with ⟨_, _, z2⟩ | ⟨b', z0, z1⟩
        · cases z2
        · injection z1 with z1 z2 z3
          injection z1 with z1
          injection z1 with z1 z4
          subst z1
          exact FR.sl n1 s2 cs b o ro ca (hb k c b rfl z0) e3 e4 e5 fun i hi => (e6 i hi).keep hk
    · cases hx

theorem fillW_ok (s : SR M β h t tA) {Nc : Nat → Prop} (hN : ∀ b, Nc b → NF M β b) : ∀ {ps : List (Nat × Nat × Operand)} {cs l : List PV} {ca : List Value} {bos : List (Nat × Option Nat)}, FRs h Nc cs ca → fillW t cs ps = some (l, bos) →
    (∀ k c b, (k, c) ∈ bos → β k c = some b → ¬ Nc b) → ∃ la, fillL tA ca ps = some la ∧ FRs h Nc l la ∧ l.length = cs.length
  | [], cs, l, ca, bos, hf, hx, _ => by
    simp only [fillW] at hx; injection hx with hx; injection hx with e1 e2; subst e1
    exact ⟨ca, rfl, hf, rfl⟩
  | (off, size, x) :: ps, cs, l, ca, bos, hf, hx, hb => by
    simp only [fillW] at hx
    split at hx
    · rename_i p bo he
      split at hx
      · rename_i hc
        rw [Option.map_eq_some_iff] at hx
        obtain ⟨⟨l', bos'⟩, hx, e⟩ := hx
        injection e with e1 e2
        simp only at e1 e2
        subst e1 e2
        have hv := roV_ok s hN he (fun k c b hbo hβ => hb k c b (by subst hbo; simp [consO]) hβ)
        obtain ⟨h1, h2⟩ := frs_cells hv
        obtain ⟨la, q1, q2, q3⟩ := fillW_ok s hN (frs_append (frs_append (frs_take hf off) h1) (frs_drop hf (off + size))) hx
          (fun k c b hkc => hb k c b (by unfold consO; split <;> simp [hkc]))
        refine ⟨la, ?_, q2, ?_⟩
        · simp only [fillL]
          rw [if_pos ⟨by rw [← h1.1]; exact hc.1, by rw [← hf.1]; exact hc.2, h2⟩]
          exact q1
        · rw [q3]
          simp only [List.length_append, List.length_take, List.length_drop]
          omega
      · cases hx
    · cases hx

theorem Sound.sub (hsub : ∀ k c x, βf k c = some x → β k c = some x) (S : Sound M βf h tA r v t1) : Sound M β h tA r v t1 := by
  obtain ⟨a, h', e, S⟩ := S
  refine ⟨a, h', e, fun d => ?_⟩
  obtain ⟨β', f, s⟩ := S d
  exact ⟨β', Fr.trans ⟨Nat.le_refl _, fun _ _ _ => rfl, fun k c b hb => .inr ⟨k, c, hsub _ _ _ hb⟩⟩ f, s⟩

theorem bldW_sound (s : SR M β h t tA) {op : AOp} (hx : bldW t op = some (v, t1)) : Sound M β h tA (aOp op tA h) v t1 := by
  have frz : ∀ {bos : List (Nat × Option Nat)} {t2 : TT}, frzIf t bos = some t2 → ∃ βf, SR M βf h t2 tA ∧ (∀ k c x, βf k c = some x → β k c = some x) ∧ ∀ k c b, (k, c) ∈ bos → β k c = some b → ¬ NF M βf b := by
    intro bos t2 hf
    unfold frzIf at hf
    split at hf
    · rename_i hall
      injection hf with hf
      subst hf
      obtain ⟨βf, h1, h2, h3, _⟩ := frzs_sr bos s
      refine ⟨βf, h1, h2, fun k c b hm hβ => ?_⟩
      rintro (hM | ⟨k', c', hc⟩)
      · exact (s.lt _ _ _ hβ).2 hM
      · exact h3 k c b hm (List.all_eq_true.1 hall _ hm) hβ _ _ hc
    · cases hf
  have hnf : ∀ {βf : Bt}, (∀ k c x, βf k c = some x → β k c = some x) → ∀ b, NF M βf b → NF M β b := by
    intro βf hsub b hb
    rcases hb with hm | ⟨k', c, hc⟩
    · exact .inl hm
    · exact .inr ⟨k', c, hsub _ _ _ hc⟩
  cases op with
  | build z ps =>
    simp only [bldW] at hx
    split at hx
    · rename_i l hz
      split at hx
      · rename_i cs bos hf
        rw [Option.map_eq_some_iff] at hx
        obtain ⟨t2, hfz, hx⟩ := hx
        injection hx with e1 e2
        subst e1 e2
        obtain ⟨βf, s1, h2, h3⟩ := frz hfz
        obtain ⟨la, q1, q2, q3⟩ := fillW_ok s (hnf h2) (pvCs_frs hz) hf h3
        exact Sound.sub h2 (Sound.plain (by simp only [aOp, q1, Option.map_some]) Fr.refl s1 rfl (frs_agg q2))
      · cases hx
    · cases hx
  | buildSlice size n z ps =>
    simp only [bldW] at hx
    split at hx
    · rename_i l hz
      split at hx
      · rename_i cs bos hf
        split at hx
        · rename_i hl
          rw [Option.map_eq_some_iff] at hx
          obtain ⟨t2, hfz, hx⟩ := hx
          injection hx with e1 e2
          subst e1 e2
          obtain ⟨βf, s1, h2, h3⟩ := frz hfz
          obtain ⟨la, q1, q2, q3⟩ := fillW_ok s (hnf h2) (frs_rep (pvCs_frs hz) n) hf h3
          exact Sound.sub h2 (Sound.newOwn (cells := la) (by simp only [aOp, q1, Option.map_some]) s1 hl.symm q2)
        · cases hx
      · cases hx
    · cases hx
  | _ => simp only [bldW] at hx; cases hx
end
end Go.Wb

/- What a call comes to, seen from the caller. -/
namespace Go.Wb
open Go

def ResR (p : Option Nat → Option Nat) (h : Heap) (N : Nat → Prop) (v : TV) (a : Value) : Prop :=
  if isRoot v then TRr p h N v a else TR (fun _ _ => none) h N 0 v a ∧ (match v with | .val _ | .undef => True | _ => False)

/-- What calls of the value machine come to, calls of the abstract machine come to. -/
def CallSim (cw : CallFW) (ca : CallF) : Prop :=
  ∀ f avs hids res outs houts, cw f avs hids = some (res, outs, houts) → ∀ (M : Nat → Prop) (β : Bt) (h : Heap) (argsA : List Value), argsA.length = avs.length → avs.length ≤ hidB → SR M β h (argTT avs hids) (argT argsA) →
    ∃ (v : Value) (h' : Heap) (β' : Bt) (p : Option Nat → Option Nat) (X : Nat → Prop), ca f argsA h = some (v, h') ∧ outs.length = avs.length ∧ Fr β h β' h' ∧ SR (fun b => M b ∨ X b) β' h' (outTT outs houts) (argT argsA) ∧ (∀ c b, p c = some b → X b ∧ ¬ M b) ∧ (∀ c c' b, p c = some b → p c' = some b → c = c') ∧
      (∀ b, X b → h.length ≤ b ∨ ∃ k c, β k c = some b) ∧ ResR p h' (NF (fun b => M b ∨ X b) β') (resTV res) v ∧
      (∀ (j f : Nat) (caps : List (Nat ⊕ PV)), avs[j]? = some (AV.clo f caps) → ∃ (f' : Nat) (caps' : List (Nat ⊕ PV)), outs[j]? = some (AV.clo f' caps') ∧ sameCaps caps caps' = true)

theorem argTT'_at : ∀ (avs : List AV) (i0 : Nat) (t : TT) (i : Nat), argTT' i0 avs t i = if i0 ≤ i then (match avs[i - i0]? with | some a => tvA a | none => t i) else t i
  | [], i0, t, i => by simp [argTT']
  | a :: l, i0, t, i => by
    simp only [argTT', updT]
    by_cases h1 : i = i0
    · subst h1; simp
    · rw [if_neg h1, argTT'_at l (i0 + 1) t i]
      by_cases h2 : i0 ≤ i
      · have e : i - i0 = (i - (i0 + 1)) + 1 := by omega
        rw [if_pos (by omega), if_pos h2, e, List.getElem?_cons_succ]
      · rw [if_neg (by omega), if_neg h2]

theorem outTT'_at : ∀ (avs : List AV) (i0 : Nat) (t : TT) (i : Nat), outTT' i0 avs t i = if i0 ≤ i then (match avs[i - i0]? with | some a => tvO a | none => t i) else t i
  | [], i0, t, i => by simp [outTT']
  | a :: l, i0, t, i => by
    simp only [outTT', updT]
    by_cases h1 : i = i0
    · subst h1; simp
    · rw [if_neg h1, outTT'_at l (i0 + 1) t i]
      by_cases h2 : i0 ≤ i
      · have e : i - i0 = (i - (i0 + 1)) + 1 := by omega
        rw [if_pos (by omega), if_pos h2, e, List.getElem?_cons_succ]
      · rw [if_neg (by omega), if_neg h2]

theorem hidT_at : ∀ (hs : List (List CV)) (i0 i : Nat), hidT i0 hs i = if i0 ≤ i then (match hs[i - i0]? with | some cs => .hbox cs | none => .undef) else .undef
  | [], i0, i => by simp [hidT, botT]
  | a :: l, i0, i => by
    simp only [hidT, updT]
    by_cases h1 : i = i0
    · subst h1; simp
    · rw [if_neg h1, hidT_at l (i0 + 1) i]
      by_cases h2 : i0 ≤ i
      · have e : i - i0 = (i - (i0 + 1)) + 1 := by omega
        rw [if_pos (by omega), if_pos h2, e, List.getElem?_cons_succ]
      · rw [if_neg (by omega), if_neg h2]

/-- Which root a callee's temporary stands for. -/
def lk (ds : List (Nat × Nat)) (hs : List Nat) (i : Nat) : Option Nat := if i < hidB then lookA ds i else hs[i - hidB]?

def bC (β : Bt) (ds : List (Nat × Nat)) (hs : List Nat) : Bt := fun i c => match lk ds hs i with
  | some k => β k c
  | none => none

section
variable {M : Nat → Prop} {β : Bt} {h : Heap} {t : TT} {tA : T}

theorem getD_map_ev {args : List Operand} {q : Nat} {x : Operand} (hx : args[q]? = some x) : (args.map (Ev tA)).getD q Go.undef = Ev tA x := by
  simp [List.getD, hx]

theorem renum_at : ∀ (caps : List (Nat ⊕ PV)) (hn j : Nat), (renum hn caps).length = caps.length ∧ (∀ p, caps[j]? = some (.inr p) → (renum hn caps)[j]? = some (.inr p)) ∧
    (∀ k, caps[j]? = some (.inl k) → ∃ i, (renum hn caps)[j]? = some (.inl (hidB + hn + i)) ∧ (rootsOf caps)[i]? = some k)
  | [], hn, j => by simp [renum]
  | .inl k0 :: l, hn, 0 => by
    have := renum_at l (hn + 1) 0
    refine ⟨by simp [renum, this.1], by simp, fun k hk => ⟨0, ?_, ?_⟩⟩
    · simp [renum]
    · simpa [rootsOf] using hk
  | .inl k0 :: l, hn, j + 1 => by
    obtain ⟨h1, h2, h3⟩ := renum_at l (hn + 1) j
    refine ⟨by simp [renum, h1], fun p hp => by simpa [renum] using h2 p (by simpa using hp), fun k hk => ?_⟩
    obtain ⟨i, q1, q2⟩ := h3 k (by simpa using hk)
    exact ⟨i + 1, by simp only [renum, List.getElem?_cons_succ, q1]; congr 2; omega, by simpa [rootsOf] using q2⟩
  | .inr p0 :: l, hn, 0 => by
    have := renum_at l hn 0
    exact ⟨by simp [renum, this.1], fun p hp => by simpa [renum] using hp, by simp⟩
  | .inr p0 :: l, hn, j + 1 => by
    obtain ⟨h1, h2, h3⟩ := renum_at l hn j
    refine ⟨by simp [renum, h1], fun p hp => by simpa [renum] using h2 p (by simpa using hp), fun k hk => ?_⟩
    obtain ⟨i, q1, q2⟩ := h3 k (by simpa using hk)
    exact ⟨i, by simpa [renum] using q1, by simpa [rootsOf] using q2⟩

/-- What an argument is in the callee. 'βf' is 'β', perhaps without some keys of what is only read. -/
theorem arg_ok (s : SR M β h t tA) {βf βc : Bt} {Nc : Nat → Prop} (hsub : ∀ k c x, βf k c = some x → β k c = some x) (hN : ∀ b, Nc b → NF M β b) {io : Bool} {hn i : Nat} {x : Operand} {av : AV} {d : Option Nat} {hs : List Nat} {bo : Option (Nat × Option Nat)}
    (hx : arg1 io hn t x = some (av, d, hs, bo)) (hd : ∀ k, d = some k → (∀ c, βc i c = β k c)) (hh : ∀ q k, hs[q]? = some k → βc (hidB + hn + q) none = β k none)
    (hb : ∀ k c b, bo = some (k, c) → β k c = some b → ¬ Nc b) : TR βc h Nc i (tvA av) (Ev tA x) := by
  have hk : Keeps h (NF M β) h Nc := Keeps.less hN
  unfold arg1 at hx
  split at hx
  · rename_i f caps he
    injection hx with hx; injection hx with e1 hx; injection hx with e2 hx; injection hx with e3 e4
    subst e1 e2 e3 e4
    have htr : TR β h (NF M β) 0 (.clo f caps) (Ev tA x) := by
      cases x with
      | tmp i => have := s.tr i; simp only [EvT] at he; rw [he] at this; exact this
      | const v => simp only [EvT] at he; split at he <;> cases he
      | global g => cases he
      | func f => cases he
    obtain ⟨as, q1, q2, q3⟩ := htr
    refine ⟨as, q1, by rw [(renum_at caps hn 0).1]; exact q2, fun j hj => ?_⟩
    rw [(renum_at caps hn 0).1] at hj
    obtain ⟨_, r2, r3⟩ := renum_at caps hn j
    have q4 := q3 j hj
    have hcj : caps[j]? = some (caps.getD j (.inl 0)) := getD_lt hj
    cases hc : caps.getD j (.inl 0) with
    | inr p =>
      rw [hc] at q4 hcj
      rw [List.getD_eq_getElem?_getD, r2 p hcj]
      exact FR.keep q4 hk
    | inl k =>
      rw [hc] at q4 hcj
      obtain ⟨q, g1, g2⟩ := r3 k hcj
      rw [List.getD_eq_getElem?_getD, g1]
      obtain ⟨b, z1, z2⟩ := q4
      exact ⟨b, by rw [hh q k g2]; exact z1, z2⟩
  · rename_i p he
    injection hx with hx; injection hx with e1 hx; injection hx with e2 hx; injection hx with e3 e4
    subst e1 e2 e3 e4
    exact (ev_val s he).keep hk
  · split at hx
    · rename_i k hp
      split at hx
      · rename_i cs hkc
        injection hx with hx; injection hx with e1 hx; injection hx with e2 hx; injection hx with e3 e4
        subst e1 e2 e3 e4
        obtain ⟨b, hb1, hb2⟩ := plc_ok s hp
        obtain ⟨ca, h1, h2, h3, h4⟩ := at_box s hkc hb1
        have hβ : βc i = β k := funext (hd k rfl)
        have : TRr (β k) h Nc (.box cs) (Ev tA x) := ⟨b, ca, hb1, hb2, h2, h3, fun j hj => (h4 j hj).keep hk (fun _ _ => rfl)⟩
        show TRr (βc i) h Nc (.box cs) (Ev tA x)
        rw [hβ]; exact this
      · cases hx
    · cases hx
    · split at hx
      · rename_i k c off n s' hp
        have hpl := plcS_ok s hp
        split at hx
        · split at hx
          · rename_i n' s2 cs hkc
            split at hx
            · rename_i hcond
              obtain ⟨rfl, rfl⟩ := hcond
              injection hx with hx; injection hx with e1 hx; injection hx with e2 hx; injection hx with e3 e4
              subst e1 e2 e3 e4
              have hβ : βc i = β k := funext (hd k rfl)
              have hroot := s.tr k
              rw [hkc] at hroot
              have : TRr (β k) h Nc (.own n s' cs) (Ev tA x) := by
                rcases hpl with ⟨z0, z1, z2⟩ | ⟨b, z0, z1⟩
                · rcases hroot with ⟨_, _, r2, _⟩ | ⟨b, ca, r1, _⟩
                  · exact .inl ⟨z0, z1, r2, z2⟩
                  · rw [z0] at r1; cases r1
                · obtain ⟨ca, g1, g2, g3, g4⟩ := at_own s hkc z0
                  exact .inr ⟨b, ca, z0, z1, g2, g3, g4.keep hk⟩
              show TRr (βc i) h Nc (.own n s' cs) (Ev tA x)
              rw [hβ]; exact this
            · cases hx
          · cases hx
        · rw [Option.map_eq_some_iff] at hx
          obtain ⟨⟨n1, cs⟩, hsl, hx⟩ := hx
          injection hx with e1 hx; injection hx with e2 hx; injection hx with e3 e4
          subst e1 e2 e3 e4
          rcases slv_ok s hsl with ⟨rfl, rfl, e | ⟨b, o, s', e⟩⟩ | ⟨b, o, s2, ro, ca, e, e3, e4, e5, e6⟩
          · simp only [tvA, TR]; rw [e]; exact FR.slNil
          · simp only [tvA, TR]; rw [e]; exact FR.slE _ _ _
          · simp only [tvA, TR]
            rw [e] at hpl ⊢
            rcases hpl with ⟨_, _, z2⟩ | ⟨b', z0, z1⟩
            · cases z2
            · injection z1 with z1 z2 z3
              injection z1 with z1
              injection z1 with z1 z4
              subst z1
              exact FR.sl n1 s2 cs b o ro ca (hb k c b rfl z0) e3 e4 e5 fun i hi => (e6 i hi).keep hk
      · cases hx

theorem args_ok (s : SR M β h t tA) {βf βc : Bt} {Nc : Nat → Prop} (hsub : ∀ k c x, βf k c = some x → β k c = some x) (hN : ∀ b, Nc b → NF M β b) {io : List Nat} : ∀ (args : List Operand) (j hn : Nat) (a : Args), argsW io t j hn args = some a →
    (∀ i k, (i, k) ∈ a.ds → ∀ c, βc i c = β k c) → (∀ q k, a.hs[q]? = some k → βc (hidB + hn + q) none = β k none) → (∀ k c b, (k, c) ∈ a.bos → β k c = some b → ¬ Nc b) →
    a.avs.length = args.length ∧ ∀ q av, a.avs[q]? = some av → TR βc h Nc (j + q) (tvA av) ((args.map (Ev tA)).getD q Go.undef)
  | [], j, hn, a, hx, _, _, _ => by
    simp only [argsW] at hx
    injection hx with hx; subst hx
    exact ⟨rfl, by simp⟩
  | x :: l, j, hn, a, hx, hd, hh, hb => by
    simp only [argsW] at hx
    split at hx
    · cases hx
    · rename_i av d hs bo h1
      split at hx
      · cases hx
      · rename_i r h2
        injection hx with hx
        subst hx
        have ih := args_ok s hsub hN l (j + 1) (hn + hs.length) r h2
          (fun i k hik => hd i k (by simp only; split <;> simp [hik]))
          (fun q k hq => by
            have := hh (hs.length + q) k (by simp only; rw [List.getElem?_append_right (by omega)]; simpa using hq)
            rwa [show hidB + hn + (hs.length + q) = hidB + (hn + hs.length) + q from by omega] at this)
          (fun k c b hkc => hb k c b (by simp only; split <;> simp [hkc]))
        refine ⟨by simp [ih.1], fun q av' hq => ?_⟩
        cases q with
        | zero =>
          simp only [List.getElem?_cons_zero, Option.some.injEq] at hq
          subst hq
          simp only [List.map_cons, List.getD_cons_zero, Nat.add_zero]
          exact arg_ok s hsub hN h1 (fun k hk => hd j k (by subst hk; simp)) (fun q k hq => hh q k (by simp only; rw [List.getElem?_append_left (List.getElem?_eq_some_iff.1 hq).1]; exact hq))
            (fun k c b hbo hβ => hb k c b (by subst hbo; simp) hβ)
        | succ q =>
          have := ih.2 q av' (by simpa using hq)
          rw [show j + 1 + q = j + (q + 1) from by omega] at this
          simpa using this

theorem ds_ge : ∀ (args : List Operand) (io : List Nat) (j hn : Nat) (a : Args), argsW io t j hn args = some a → (∀ i k, (i, k) ∈ a.ds → j ≤ i ∧ i < j + args.length) ∧ ∀ i k, (i, k) ∈ a.ds → lookA a.ds i = some k
  | [], io, j, hn, a, hx => by
    simp only [argsW] at hx
    injection hx with hx; subst hx
    simp
  | x :: l, io, j, hn, a, hx => by
    simp only [argsW] at hx
    split at hx
    · cases hx
    · rename_i av d hs bo h1
      split at hx
      · cases hx
      · rename_i r h2
        injection hx with hx
        subst hx
        obtain ⟨i1, i2⟩ := ds_ge l io (j + 1) (hn + hs.length) r h2
        cases d with
        | none =>
          simp only
          exact ⟨fun i k hik => by have := i1 i k hik; simp only [List.length_cons]; omega, i2⟩
        | some k0 =>
          simp only
          constructor
          · intro i k hik
            simp only [List.length_cons]
            rcases List.mem_cons.1 hik with e | hik
            · injection e with e1 e2; omega
            · have := i1 i k hik; omega
          · intro i k hik
            simp only [lookA]
            rcases List.mem_cons.1 hik with e | hik'
            · injection e with e1 e2
              rw [if_pos e1, e2]
            · have := i1 i k hik'
              rw [if_neg (by omega)]
              exact i2 i k hik'

end
end Go.Wb

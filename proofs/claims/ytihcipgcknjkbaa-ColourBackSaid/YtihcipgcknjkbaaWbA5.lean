import Derived.Test.YtihcipgcknjkbaaWbA4
import Derived.Test.YtihcipgcknjkbaaWbA2
/- Rows for memory, calls, and lists as memory. -/
namespace Go.Wb
open Go

/-! ### Lists as cells -/
/-- A list, one cell each. -/
def mp {α : Type} (f : α → PV) (l : List α) : List PV := l.map f
abbrev u8P (b : Nat) : PV := .sc (.int .u8 (b : Int))
abbrev bp (l : List Nat) : List PV := mp (fun b : Nat => PV.sc (.int .u8 (b : Int))) l
abbrev kp (k : IntKind) (l : List Int) : List PV := mp (fun b : Int => PV.sc (.int k b)) l
abbrev ip (l : List Int) : List PV := kp .i64 l

section
variable {α : Type} {f : α → PV} {l l' : List α} {i n : Nat} {a : α}
@[simp] theorem mp_nil : mp f [] = [] := rfl
theorem mp_cons : mp f (a :: l) = f a :: mp f l := rfl
@[simp] theorem mp_len : (mp f l).length = l.length := by simp [mp]
@[simp] theorem mp_append : mp f l ++ mp f l' = mp f (l ++ l') := by simp [mp]
@[simp] theorem mp_drop : (mp f l).drop n = mp f (l.drop n) := by simp [mp, List.map_drop]
@[simp] theorem mp_take : (mp f l).take n = mp f (l.take n) := by simp [mp, List.map_take]
theorem mp_set : (mp f l).set n (f a) = mp f (l.set n a) := by simp [mp, List.map_set]
theorem mp_rep : List.replicate n (f a) = mp f (List.replicate n a) := by simp [mp]
theorem cellP_mp [Inhabited α] (h : i < l.length) : cellP (mp f l) i = some (f (l.getD i default)) := by
  simp [cellP, mp, h]
theorem mp_one : [f a] = mp f [a] := rfl
end
section
variable {l : List Nat} {i n : Nat} {a : Nat} {li : List Int} {b : Int} {k : IntKind}
@[simp] theorem cellP_bp (h : i < l.length) : cellP (bp l) i = some (u8P (l.getD i 0)) := cellP_mp h
@[simp] theorem bp_set : (bp l).set n (.sc (.int .u8 (a : Int))) = bp (l.set n a) := mp_set (f := fun b : Nat => PV.sc (.int .u8 (b : Int)))
@[simp] theorem cellP_kp (h : i < li.length) : cellP (kp k li) i = some (.sc (.int k (li.getD i 0))) := cellP_mp h
@[simp] theorem kp_set : (kp k li).set n (.sc (.int k b)) = kp k (li.set n b) := mp_set (f := fun b : Int => PV.sc (.int k b))
@[simp low] theorem bp_setI (h : 0 ≤ b) : (bp l).set n (.sc (.int .u8 b)) = bp (l.set n b.toNat) := by
  have := bp_set (l := l) (n := n) (a := b.toNat)
  rw [show ((b.toNat : Nat) : Int) = b by omega] at this
  exact this
@[simp low] theorem bp_append1I (h : 0 ≤ b) : bp l ++ [.sc (.int .u8 b)] = bp (l ++ [b.toNat]) := by
  have : bp l ++ [.sc (.int .u8 (b.toNat : Int))] = bp (l ++ [b.toNat]) := mp_append (f := fun b : Nat => PV.sc (.int .u8 (b : Int))) (l' := [b.toNat])
  rw [show ((b.toNat : Nat) : Int) = b by omega] at this
  exact this
@[simp] theorem bp_append1 : bp l ++ [.sc (.int .u8 (a : Int))] = bp (l ++ [a]) := mp_append (f := fun b : Nat => PV.sc (.int .u8 (b : Int))) (l' := [a])
@[simp] theorem kp_append1 : kp k li ++ [.sc (.int k b)] = kp k (li ++ [b]) := mp_append (f := fun b : Int => PV.sc (.int k b)) (l' := [b])
end

@[simp] theorem hasRefs_mp {α : Type} {f : α → PV} {l : List α} (h : ∀ x, hasRef (f x) = false) : hasRefs (mp f l) = false := by
  induction l with
  | nil => simp [mp, hasRefs]
  | cons a l ih =>
    rw [mp_cons]
    simp only [hasRefs, h a, ih, Bool.or_false]
@[simp] theorem hasRefs_bp {l : List Nat} : hasRefs (bp l) = false := hasRefs_mp (fun _ => rfl)
@[simp] theorem hasRefs_kp {k : IntKind} {l : List Int} : hasRefs (kp k l) = false := hasRefs_mp (fun _ => rfl)
@[simp] theorem hasRefs_nil : hasRefs [] = false := by simp [hasRefs]

/-! ### Memory -/
section
variable {E : EnvW} {K : List Fm} {t : TT} {l : List WOper} {d : Nat} {r : Bool} {ann : List (Nat × Nat)} {io : List Nat} {x y : Operand}

def srcT (s : Nat) (t : TT) : TV → Option (Nat × List PV)
  | .val (.sc (.string str)) => if s = 1 then some (str.size, str.data.toList.map fun b => .sc (.int .u8 b.toNat)) else none
  | v => match slvV t v with
      | some (n, cs) => if n * s = cs.length then some (n, cs) else none
      | none => none
@[simp] theorem srcP_T {s : Nat} : srcP s t x = srcT s t (EvT t x) := by
  unfold srcP srcT
  rw [slv_V]
  generalize EvT t x = v
  cases v with
  | val p => cases p with
    | sc v => cases v <;> rfl
    | _ => rfl
  | _ => rfl
def srcQ (s : Nat) : Option (Nat × List PV) → Option (Nat × List PV)
  | some (n, cs) => if n * s = cs.length then some (n, cs) else none
  | none => none
@[simp] theorem srcT_str {s : Nat} {str : ByteArray} : srcT s t (ts str) = if s = 1 then some (str.size, str.data.toList.map fun b => .sc (.int .u8 b.toNat)) else none := rfl
@[simp] theorem srcT_sl {s n : Nat} {cs : List PV} (h : n * s = cs.length) : srcT s t (.val (.sl n cs)) = some (n, cs) := by
  simp only [srcT, slvV]; rw [if_pos h]
@[simp] theorem srcT_own {s s' n : Nat} {cs : List PV} (h : n * s = cs.length) : srcT s t (.own n s' cs) = some (n, cs) := by
  simp only [srcT, slvV]; rw [if_pos h]
@[simp] theorem srcT_slc {s s' n k off : Nat} {c : Option Nat} : srcT s t (.slc k c off n s') = srcQ s ((rdSlc t k c off n s').map fun cs => (n, cs)) := rfl
@[simp] theorem srcQ_some {s n : Nat} {cs : List PV} (h : n * s = cs.length) : srcQ s (some (n, cs)) = some (n, cs) := by
  simp only [srcQ]; rw [if_pos h]

def tkT (t : TT) (i : Nat) : TV → Option (Nat × Nat × List PV × TT)
  | .own n s cs => some (n, s, cs, setR t i .undef)
  | .slc k none 0 m s => match t k with
    | .own n s' cs => if m = n ∧ s = s' then some (n, s, cs, setR t k .undef) else none
    | _ => none
  | .slc k (some j) 0 m s => match t k with
    | .box bs => match cellC bs j with
      | some (.o n s' cs) => if m = n ∧ s = s' then some (n, s, cs, setC t k (.box (bs.set j .gone))) else none
      | _ => none
    | _ => none
  | _ => none
@[simp] theorem takeOwn_T {i : Nat} : takeOwn t (.tmp i) = tkT t i (t i) := by
  unfold takeOwn tkT
  rfl
@[simp] theorem tkT_own {i n s : Nat} {cs : List PV} : tkT t i (.own n s cs) = some (n, s, cs, setR t i .undef) := rfl
def tkO (t : TT) (k m s : Nat) : TV → Option (Nat × Nat × List PV × TT)
  | .own n s' cs => if m = n ∧ s = s' then some (n, s, cs, setR t k .undef) else none
  | _ => none
@[simp] theorem tkT_slc {i k m s : Nat} : tkT t i (.slc k none 0 m s) = tkO t k m s (t k) := by
  simp only [tkT, tkO]
@[simp] theorem tkO_own {k n s : Nat} {cs : List PV} : tkO t k n s (.own n s cs) = some (n, s, cs, setR t k .undef) := by simp [tkO]
def tkB (t : TT) (k j m s : Nat) : TV → Option (Nat × Nat × List PV × TT)
  | .box bs => match cellC bs j with
    | some (.o n s' cs) => if m = n ∧ s = s' then some (n, s, cs, setC t k (.box (bs.set j .gone))) else none
    | _ => none
  | _ => none
@[simp] theorem tkT_slcB {i k j m s : Nat} : tkT t i (.slc k (some j) 0 m s) = tkB t k j m s (t k) := by
  simp only [tkT, tkB]
@[simp] theorem tkB_box {k j m s : Nat} {bs : List CV} : tkB t k j m s (.box bs) = match cellC bs j with
    | some (.o n s' cs) => if m = n ∧ s = s' then some (n, s, cs, setC t k (.box (bs.set j .gone))) else none
    | _ => none := rfl

def apT (size bytes : Nat) (a : Option (Nat × List PV)) (b : Option (Nat × Nat × List PV × TT)) : Option (TV × TT) :=
  match a with
  | none => none
  | some (m, new) => match b with
    | none => none
    | some (n, s, cs, t') => if s = size ∧ (n + m) * bytes ≤ lim47 then some (.own (n + m) s (cs ++ new), t') else none
@[simp] theorem appW_T {s b : Nat} : appW s b t x y = apT s b (srcP s t y) (takeOwn t x) := rfl
@[simp] theorem apT_ok {b m n s : Nat} {new cs : List PV} {t' : TT} (h : (n + m) * b ≤ 140737488355328) : apT s b (some (m, new)) (some (n, s, cs, t')) = some (.own (n + m) s (cs ++ new), t') := by
  simp only [apT]; rw [if_pos ⟨trivial, h⟩]

@[simp] theorem opW_store1 : opW r ann (.store none x y) t = (st1 t x y).map fun t' => (.undef, t') := rfl
@[simp] theorem opW_storeN {m : Nat} : opW r ann (.store (some m) x y) t = (stN m t x y).map fun t' => (.undef, t') := rfl
def stV (t : TT) (k off : Nat) (x : Operand) : TV → TV → Option TT
  | .box _, .val (.agg _) => none
  | .box cs, .val p => match cellC cs off with
    | some (.v _) => some (updT t k (.box (cs.set off (.v p))))
    | some _ => some (setC t k (.box (cs.set off (.v p))))
    | none => none
  | .box cs, .own n s l => match x with
    | .tmp j => if off < cs.length ∧ j ≠ k then some (setC (setR t j .undef) k (.box (cs.set off (.o n s l)))) else none
    | _ => none
  | .own _ _ _, .val (.agg _) => none
  | .own n s cs, .val p => if off < cs.length then some (updT t k (.own n s (cs.set off p))) else none
  | _, _ => none
def stC (t : TT) (k j off : Nat) : TV → TV → Option TT
  | .box _, .val (.agg _) => none
  | .box cs, .val p => match cellC cs j with
    | some (.o n s l) => if off < l.length then some (updT t k (.box (cs.set j (.o n s (l.set off p))))) else none
    | _ => none
  | _, _ => none
@[simp] theorem st1_T : st1 t x y = match plc t x with
    | some (k, none, off) => stV t k off y (t k) (EvT t y)
    | some (k, some j, off) => stC t k j off (t k) (EvT t y)
    | none => none := by
  unfold st1
  cases hp : plc t x with
  | none => rfl
  | some p =>
    obtain ⟨k, c, off⟩ := p
    cases c with
    | none =>
      simp only [stV]
      cases t k <;> cases EvT t y <;> (try rename_i q; cases q) <;> rfl
    | some j =>
      simp only [stC]
      cases t k <;> cases EvT t y <;> (try rename_i q; cases q) <;> rfl
@[simp] theorem stV_box_sc {k off : Nat} {cs : List CV} {v : Value} : stV t k off x (.box cs) (.val (.sc v)) = match cellC cs off with
    | some (.v _) => some (updT t k (.box (cs.set off (.v (.sc v)))))
    | some _ => some (setC t k (.box (cs.set off (.v (.sc v)))))
    | none => none := rfl
@[simp] theorem stV_box_sl {k off n : Nat} {cs : List CV} {l : List PV} : stV t k off x (.box cs) (.val (.sl n l)) = match cellC cs off with
    | some (.v _) => some (updT t k (.box (cs.set off (.v (.sl n l)))))
    | some _ => some (setC t k (.box (cs.set off (.v (.sl n l)))))
    | none => none := rfl
@[simp] theorem stV_box_own {k off j n s : Nat} {cs : List CV} {l : List PV} : stV t k off (.tmp j) (.box cs) (.own n s l) = if off < cs.length ∧ j ≠ k then some (setC (setR t j .undef) k (.box (cs.set off (.o n s l)))) else none := rfl
@[simp] theorem stV_own_sc {k off n s : Nat} {cs : List PV} {v : Value} (h : off < cs.length) : stV t k off x (.own n s cs) (.val (.sc v)) = some (updT t k (.own n s (cs.set off (.sc v)))) := by
  simp only [stV]; rw [if_pos h]
@[simp] theorem stV_own_sl {k off n s m : Nat} {cs l : List PV} (h : off < cs.length) : stV t k off x (.own n s cs) (.val (.sl m l)) = some (updT t k (.own n s (cs.set off (.sl m l)))) := by
  simp only [stV]; rw [if_pos h]

@[simp] theorem opW_box : opW r ann (.box x) t = match x, EvT t x with
    | _, .val p => some (.box ((pvCells p).map .v), t)
    | .tmp i, .own n s cs => some (.box [.o n s cs], setR t i .undef)
    | _, _ => none := rfl
@[simp] theorem pvCells_sc {v : Value} : pvCells (.sc v) = [.sc v] := rfl
@[simp] theorem pvCells_sl {n : Nat} {cs : List PV} : pvCells (.sl n cs) = [.sl n cs] := rfl
@[simp] theorem pvCells_agg {cs : List PV} : pvCells (.agg cs) = cs := rfl
@[simp] theorem bldW_build {z : List Value} {ps : List (Nat × Nat × Operand)} : bldW t (.build z ps) = match pvCs z with
    | some l => match fillW t l ps with
      | some (cs, bos) => (frzIf t bos).map fun t1 => (.val (.agg cs), t1)
      | none => none
    | none => none := rfl
@[simp] theorem bldW_buildSlice {s n : Nat} {z : List Value} {ps : List (Nat × Nat × Operand)} : bldW t (.buildSlice s n z ps) = match pvCs z with
    | some l => match fillW t (repP n l) ps with
      | some (cs, bos) => if cs.length = n * s then (frzIf t bos).map fun t1 => (.own n s cs, t1) else none
      | none => none
    | none => none := rfl
attribute [simp] consO frzIf
def roQ (t : TT) (x : Operand) : TV → Option (PV × Option (Nat × Option Nat))
  | .val p => some (p, none)
  | _ => match plcS t x with
    | some (k, c, _, _, _) => (slv t x).map fun y => (.sl y.1 y.2, some (k, c))
    | none => none
@[simp] theorem roV_Q : roV t x = roQ t x (EvT t x) := by
  unfold roV roQ
  cases EvT t x <;> rfl
@[simp] theorem roQ_val {p : PV} : roQ t x (.val p) = some (p, none) := rfl
@[simp] theorem roQ_own {n s : Nat} {cs : List PV} : roQ t x (.own n s cs) = match plcS t x with
    | some (k, c, _, _, _) => (slv t x).map fun y => (.sl y.1 y.2, some (k, c))
    | none => none := rfl
@[simp] theorem roQ_slc {k : Nat} {c : Option Nat} {off n s : Nat} : roQ t x (.slc k c off n s) = match plcS t x with
    | some (k, c, _, _, _) => (slv t x).map fun y => (.sl y.1 y.2, some (k, c))
    | none => none := rfl
@[simp] theorem fillW_nil {cs : List PV} : fillW t cs [] = some (cs, []) := rfl
@[simp] theorem fillW_cons {cs : List PV} {off size : Nat} {rest : List (Nat × Nat × Operand)} : fillW t cs ((off, size, x) :: rest) = match roV t x with
    | some (p, bo) => if (pvCells p).length = size ∧ off + size ≤ cs.length then (fillW t (cs.take off ++ pvCells p ++ cs.drop (off + size)) rest).map fun r => (r.1, consO bo r.2) else none
    | none => none := rfl
attribute [simp] pvCs zcv isNilS lookA
@[simp] theorem pvC_int {k : IntKind} {a : Int} : pvC (.int k a) = some (.sc (.int k a)) := rfl
@[simp] theorem pvC_bool {b : Bool} : pvC (.bool b) = some (.sc (.bool b)) := rfl
@[simp] theorem pvC_str {b : ByteArray} : pvC (.string b) = some (.sc (.string b)) := rfl
@[simp] theorem pvC_nil : pvC (.slice none 0 0) = some (.sl 0 []) := rfl
@[simp] theorem pvC_nilF : pvC .nilFunc = some (.sc .nilFunc) := rfl
@[simp] theorem repP_one {n : Nat} {z : PV} : repP n [z] = List.replicate n z := rfl
@[simp] theorem repP_1 {l : List PV} : repP 1 l = l := by
  match l with
  | [] => rfl
  | [_] => rfl
  | _ :: _ :: _ => simp [repP]
/-- Cells of new memory. -/
def mkR (n : Nat) (zs : List PV) : List PV := repP n zs
@[simp high] theorem mkR_u8 {n : Nat} : mkR n [.sc (.int .u8 0)] = bp (List.replicate n 0) := mp_rep (f := fun b : Nat => PV.sc (.int .u8 (b : Int))) (a := 0)
@[simp] theorem mkR_k {n : Nat} {k : IntKind} {b : Int} : mkR n [.sc (.int k b)] = kp k (List.replicate n b) := mp_rep (f := fun b : Int => PV.sc (.int k b))
@[simp] theorem mkR_bool {n : Nat} {b : Bool} : mkR n [.sc (.bool b)] = mp (fun b : Bool => PV.sc (.bool b)) (List.replicate n b) := mp_rep (f := fun b : Bool => PV.sc (.bool b))
def mkT (size bytes : Nat) (zs : Option (List PV)) (l c : TV) (t : TT) : Option (TV × TT) :=
  match zs, l, c with
  | some zs, .val (.sc (.int _ l)), .val (.sc (.int _ c)) => if 0 ≤ l ∧ l ≤ c ∧ bytes * c ≤ lim48 ∧ zs.length = size then some (.own l.toNat size (repP l.toNat zs), t) else none
  | _, _, _ => none
@[simp] theorem opW_makeSlice {s b : Nat} {z : List Value} : opW r ann (.makeSlice s b z x y) t = mkT s b (pvCs z) (EvT t x) (EvT t y) t := by
  unfold mkT
  rfl
@[simp] theorem mkT_ok {b : Nat} {zs : List PV} {s : Nat} {k k' : IntKind} {n c : Int} (h0 : 0 ≤ n) (h1 : n ≤ c) (h2 : b * c ≤ 281474976710656) (h3 : zs.length = s) : mkT s b (some zs) (ti k n) (ti k' c) t = some (.own n.toNat s (mkR n.toNat zs), t) := by
  simp only [mkT, mkR]
  rw [if_pos ⟨h0, h1, by show (b : Int) * c ≤ ((2 ^ 48 : Nat) : Int); simpa using h2, h3⟩]
@[simp] theorem opW_strBytes : opW r ann (.strBytes x) t = match EvT t x with
    | .val (.sc (.string s)) => some (.own s.size 1 (s.data.toList.map fun b => .sc (.int .u8 b.toNat)), t)
    | _ => none := rfl
@[simp] theorem opW_bytesStr : opW r ann (.bytesStr x) t = match slv t x with
    | some (n, cs) => if n = cs.length then (bytesOf cs).map fun l => (.val (.sc (.string ⟨l.toArray⟩)), t) else none
    | none => none := rfl
@[simp] theorem opW_nilCheck {i : Nat} : opW r ann (.nilCheck (.tmp i)) t = (shT i 0 (t i)).map fun v => (v, t) := by
  have : opW r ann (.nilCheck (.tmp i)) t = match t i with | .pf cs o => some (TV.pf cs o, t) | _ => (plc t (.tmp i)).map fun p => (.ref p.1 p.2.1 p.2.2, t) := rfl
  rw [this]
  simp only [plc, shT]
  cases t i <;> simp
@[simp] theorem opW_eqv {neg : Bool} {ks : List CK} : opW r ann (.eqv neg ks x y) t = match EvT t x, EvT t y with
    | .val (.agg a), .val (.agg b) => match scVals a, scVals b with
      | some a, some b => (eqCells ks a b).map fun v => (.val (.sc (.bool (neg != v))), t)
      | _, _ => none
    | _, _ => none := rfl
attribute [simp] scVals
def slT (size i : Nat) (v : TV) (lo hi : Option TV) : Option TV :=
  match v with
  | .val (.sl n cs) => match boundI n n hi with
    | some hh => match boundI 0 hh lo with
      | some l => if n * size = cs.length then some (.val (.sl (hh - l) ((cs.drop (l * size)).take ((hh - l) * size)))) else none
      | none => none
    | none => none
  | .own n s _ => if s = size then match boundI n n hi with
      | some hh => match boundI 0 hh lo with
        | some l => some (.slc i none (0 + l * size) (hh - l) s)
        | none => none
      | none => none
    else none
  | .slc k c off n s => if s = size then match boundI n n hi with
      | some hh => match boundI 0 hh lo with
        | some l => some (.slc k c (off + l * size) (hh - l) s)
        | none => none
      | none => none
    else none
  | _ => none
@[simp] theorem opW_sliceSl {s i : Nat} {lo hi : Option Operand} : opW r ann (.sliceSl s (.tmp i) lo hi) t = (slT s i (t i) (lo.map (EvT t)) (hi.map (EvT t))).map fun v => (v, t) := by
  have : opW r ann (.sliceSl s (.tmp i) lo hi) t = match t i with
    | .val (.sl n cs) => match boundT t n n hi with
      | some hh => match boundT t 0 hh lo with
        | some l => if n * s = cs.length then some (.val (.sl (hh - l) ((cs.drop (l * s)).take ((hh - l) * s))), t) else none
        | none => none
      | none => none
    | _ => match plcS t (.tmp i) with
      | some (k, c, off, n, s') => if s' = s then match boundT t n n hi with
          | some hh => match boundT t 0 hh lo with
            | some l => some (.slc k c (off + l * s) (hh - l) s', t)
            | none => none
          | none => none
        else none
      | none => none := rfl
  rw [this]
  simp only [boundT_I, plcS, slT]
  cases t i with
  | val p => cases p with
    | sl n cs =>
      simp only
      cases boundI n n (hi.map (EvT t)) with
      | none => rfl
      | some hh =>
        simp only
        cases boundI 0 hh (lo.map (EvT t)) with
        | none => rfl
        | some q => simp only; split <;> rfl
    | _ => rfl
  | own n s' cs =>
    simp only
    by_cases hs : s' = s
    · simp only [if_pos hs]
      cases boundI n n (hi.map (EvT t)) with
      | none => rfl
      | some hh =>
        simp only
        cases boundI 0 hh (lo.map (EvT t)) <;> rfl
    · simp only [if_neg hs]; rfl
  | slc k c off n s' =>
    simp only
    by_cases hs : s' = s
    · simp only [if_pos hs]
      cases boundI n n (hi.map (EvT t)) with
      | none => rfl
      | some hh =>
        simp only
        cases boundI 0 hh (lo.map (EvT t)) <;> rfl
    · simp only [if_neg hs]; rfl
  | _ => rfl
section
variable {s i n : Nat} {cs : List PV} {k k' : IntKind} {lo hi : Int}
@[simp] theorem slT_00 (h : n * s = cs.length) : slT s i (.val (.sl n cs)) none none = some (.val (.sl n cs)) := by
  simp [slT, h, List.take_of_length_le]
@[simp] theorem slT_own_00 : slT s i (.own n s cs) none none = some (.slc i none 0 n s) := by
  simp [slT]
@[simp] theorem slT_own_lo (h0 : 0 ≤ lo) (h1 : lo ≤ n) : slT s i (.own n s cs) (some (ti k lo)) none = some (.slc i none (lo.toNat * s) (n - lo.toNat) s) := by
  simp only [slT, boundI_none, boundI_int, Nat.le_refl, if_true]
  rw [if_pos ⟨h0, h1⟩]; simp
@[simp] theorem slT_own_hi (h0 : 0 ≤ hi) (h1 : hi ≤ n) : slT s i (.own n s cs) none (some (ti k hi)) = some (.slc i none 0 hi.toNat s) := by
  simp only [slT, boundI_none, boundI_int, if_true]
  rw [if_pos ⟨h0, h1⟩]; simp
@[simp] theorem slT_own_lh (h0 : 0 ≤ lo) (h1 : lo ≤ hi) (h2 : hi ≤ n) : slT s i (.own n s cs) (some (ti k lo)) (some (ti k' hi)) = some (.slc i none (lo.toNat * s) (hi.toNat - lo.toNat) s) := by
  simp only [slT, boundI_int, if_true]
  rw [if_pos ⟨by omega, h2⟩]
  simp only
  rw [if_pos ⟨h0, by omega⟩]
  simp
@[simp] theorem slT_slc_00 {j off : Nat} {c : Option Nat} : slT s i (.slc j c off n s) none none = some (.slc j c off n s) := by
  simp [slT]
@[simp] theorem slT_slc_lo {j off : Nat} {c : Option Nat} (h0 : 0 ≤ lo) (h1 : lo ≤ n) : slT s i (.slc j c off n s) (some (ti k lo)) none = some (.slc j c (off + lo.toNat * s) (n - lo.toNat) s) := by
  simp only [slT, boundI_none, boundI_int, Nat.le_refl, if_true]
  rw [if_pos ⟨h0, h1⟩]
@[simp] theorem slT_slc_hi {j off : Nat} {c : Option Nat} (h0 : 0 ≤ hi) (h1 : hi ≤ n) : slT s i (.slc j c off n s) none (some (ti k hi)) = some (.slc j c off hi.toNat s) := by
  simp only [slT, boundI_none, boundI_int, if_true]
  rw [if_pos ⟨h0, h1⟩]; simp
@[simp] theorem slT_slc_lh {j off : Nat} {c : Option Nat} (h0 : 0 ≤ lo) (h1 : lo ≤ hi) (h2 : hi ≤ n) : slT s i (.slc j c off n s) (some (ti k lo)) (some (ti k' hi)) = some (.slc j c (off + lo.toNat * s) (hi.toNat - lo.toNat) s) := by
  simp only [slT, boundI_int, if_true]
  rw [if_pos ⟨by omega, h2⟩]
  simp only
  rw [if_pos ⟨h0, by omega⟩]
@[simp] theorem slT_lo (h : n * s = cs.length) (h0 : 0 ≤ lo) (h1 : lo ≤ n) : slT s i (.val (.sl n cs)) (some (ti k lo)) none = some (.val (.sl (n - lo.toNat) ((cs.drop (lo.toNat * s)).take ((n - lo.toNat) * s)))) := by
  simp only [slT, boundI_none, boundI_int, Nat.le_refl, if_true]
  rw [if_pos ⟨h0, h1⟩]; simp only [if_pos h]
@[simp] theorem slT_hi (h : n * s = cs.length) (h0 : 0 ≤ hi) (h1 : hi ≤ n) : slT s i (.val (.sl n cs)) none (some (ti k hi)) = some (.val (.sl hi.toNat (cs.take (hi.toNat * s)))) := by
  simp only [slT, boundI_none, boundI_int]
  rw [if_pos ⟨h0, h1⟩]; simp [h]
@[simp] theorem slT_lh (h : n * s = cs.length) (h0 : 0 ≤ lo) (h1 : lo ≤ hi) (h2 : hi ≤ n) : slT s i (.val (.sl n cs)) (some (ti k lo)) (some (ti k' hi)) = some (.val (.sl (hi.toNat - lo.toNat) ((cs.drop (lo.toNat * s)).take ((hi.toNat - lo.toNat) * s)))) := by
  simp only [slT, boundI_int]
  rw [if_pos ⟨by omega, h2⟩]
  simp only
  rw [if_pos ⟨h0, by omega⟩]
  simp only [if_pos h]
end
def saT (t : TT) (n size i : Nat) (v : TV) (lo hi : Option TV) : Option TV :=
  match v with
  | .pf cs off => if off + n * size ≤ cs.length then match boundI n n hi with
      | some hh => match boundI 0 hh lo with
        | some l => some (.val (.sl (hh - l) ((cs.drop (off + l * size)).take ((hh - l) * size))))
        | none => none
      | none => none
    else none
  | .box cs => if 0 + n * size ≤ cs.length then match boundI n n hi with
      | some hh => match boundI 0 hh lo with
        | some l => some (.slc i none (0 + l * size) (hh - l) size)
        | none => none
      | none => none
    else none
  | .ref k none off => match t k with
    | .box cs => if off + n * size ≤ cs.length then match boundI n n hi with
      | some hh => match boundI 0 hh lo with
        | some l => some (.slc k none (off + l * size) (hh - l) size)
        | none => none
      | none => none
      else none
    | _ => none
  | _ => none
@[simp] theorem opW_sliceArr {n s i : Nat} {lo hi : Option Operand} : opW r ann (.sliceArr n s (.tmp i) lo hi) t = (saT t n s i (t i) (lo.map (EvT t)) (hi.map (EvT t))).map fun v => (v, t) := by
  have : opW r ann (.sliceArr n s (.tmp i) lo hi) t = match t i with
    | .pf cs off => if off + n * s ≤ cs.length then match boundT t n n hi with
        | some hh => match boundT t 0 hh lo with
          | some l => some (.val (.sl (hh - l) ((cs.drop (off + l * s)).take ((hh - l) * s))), t)
          | none => none
        | none => none
      else none
    | _ => match plc t (.tmp i) with
      | some (k, none, off) => match t k with
        | .box cs => if off + n * s ≤ cs.length then match boundT t n n hi with
          | some hh => match boundT t 0 hh lo with
            | some l => some (.slc k none (off + l * s) (hh - l) s, t)
            | none => none
          | none => none
          else none
        | _ => none
      | _ => none := rfl
  rw [this]
  have fin : ∀ (P : Prop) [Decidable P] (g : Nat → Nat → TV), (if P then match boundI n n (hi.map (EvT t)) with | some hh => (match boundI 0 hh (lo.map (EvT t)) with | some l => some (g hh l, t) | none => none) | none => none else none) =
      (if P then match boundI n n (hi.map (EvT t)) with | some hh => (match boundI 0 hh (lo.map (EvT t)) with | some l => some (g hh l) | none => none) | none => none else none).map fun v => (v, t) := by
    intro P _ g
    by_cases hP : P
    · simp only [if_pos hP]
      cases boundI n n (hi.map (EvT t)) with
      | none => rfl
      | some hh =>
        simp only
        cases boundI 0 hh (lo.map (EvT t)) <;> rfl
    · simp only [if_neg hP]; rfl
  simp only [boundT_I, plc]
  cases ht : t i with
  | pf cs off => exact fin _ (fun hh l => .val (.sl (hh - l) ((cs.drop (off + l * s)).take ((hh - l) * s))))
  | box cs => simp only [ht, saT]; exact fin _ (fun hh l => .slc i none (0 + l * s) (hh - l) s)
  | ref k c off =>
    cases c with
    | none =>
      simp only [saT]
      cases t k with
      | box cs => exact fin _ (fun hh l => .slc k none (off + l * s) (hh - l) s)
      | _ => rfl
    | some _ => rfl
  | _ => rfl
attribute [simp] saT
@[simp] theorem opW_field1 {off : Nat} : opW r ann (.field none off x) t = match EvT t x with
    | .val (.agg cs) => (cellP cs off).map fun p => (.val p, t)
    | _ => none := rfl
@[simp] theorem opW_fieldN {off m : Nat} : opW r ann (.field (some m) off x) t = match EvT t x with
    | .val (.agg cs) => some (.val (.agg ((cs.drop off).take m)), t)
    | _ => none := rfl
@[simp] theorem opW_idxArr1 {n s : Nat} : opW r ann (.idxArr n s none x y) t = match EvT t x, EvT t y with
    | .val (.agg cs), .val (.sc (.int _ j)) => if 0 ≤ j ∧ j < n then (cellP cs (j.toNat * s)).map fun p => (.val p, t) else none
    | _, _ => none := rfl
@[simp] theorem opW_idxArrN {n s m : Nat} : opW r ann (.idxArr n s (some m) x y) t = match EvT t x, EvT t y with
    | .val (.agg cs), .val (.sc (.int _ j)) => if 0 ≤ j ∧ j < n then some (.val (.agg ((cs.drop (j.toNat * s)).take m)), t) else none
    | _, _ => none := rfl
@[simp] theorem opW_const {v : Value} : opW r ann (.const v) t = (pvC v).map fun p => (.val p, t) := rfl

/-- Some cells, read as one value. -/
@[simp] theorem ldN_T {m i : Nat} : ldN m t (.tmp i) = match t i with
    | .pf cs off => if off + m ≤ cs.length then some (.val (.agg ((cs.drop off).take m)), t) else none
    | .box cs => if 0 + m ≤ cs.length then
          if cs.all isV then (unv ((cs.drop 0).take m)).map fun l => (.val (.agg l), t)
          else (unv (((cs.map frz).drop 0).take m)).map fun l => (.val (.agg l), setC t i (.box (cs.map frz)))
        else none
    | .ref k none off => match t k with
      | .box cs => if off + m ≤ cs.length then
          if cs.all isV then (unv ((cs.drop off).take m)).map fun l => (.val (.agg l), t)
          else (unv (((cs.map frz).drop off).take m)).map fun l => (.val (.agg l), setC t k (.box (cs.map frz)))
        else none
      | .own _ _ cs => if off + m ≤ cs.length then some (.val (.agg ((cs.drop off).take m)), t) else none
      | _ => none
    | _ => none := by
  unfold ldN
  simp only [EvT, plc]
  cases ht : t i with
  | box cs => simp only [ht]
  | ref k c off => cases c <;> rfl
  | _ => rfl
attribute [simp] unv isV frz
@[simp] theorem unv_mpv {α : Type} {f : α → PV} {l : List α} : unv ((mp f l).map .v) = some (mp f l) := by
  induction l with
  | nil => rfl
  | cons a l ih => rw [mp_cons, List.map_cons, unv, ih]; rfl

/-! ### Calls -/
attribute [simp] argsW arg1 afterW backs backHs backTV backH resTV tvC boxesC boxC nodupN rootsOf renum capArgs frzs frz1 isOwnB isOwnV
attribute [simp] argTT argTT' hidT tvA resOk houtsW resW
@[simp] theorem leaveV_ret {res : List ARes} {body : WCode} {avs : List AV} {hids : List (List CV)} : leaveV res body avs hids (some (.ret, t)) = leaveW res body avs hids t := rfl
@[simp] theorem leaveV_normal {res : List ARes} {body : WCode} {avs : List AV} {hids : List (List CV)} : leaveV res body avs hids (some (.normal, t)) = leaveW res body avs hids t := rfl
@[simp] theorem leaveV_none {res : List ARes} {body : WCode} {avs : List AV} {hids : List (List CV)} : leaveV res body avs hids none = none := rfl
@[simp] theorem leaveV_ite {res : List ARes} {body : WCode} {avs : List AV} {hids : List (List CV)} {b : Bool} {x y : Option (AExit × TT)} : leaveV res body avs hids (iteV b x y) = iteV b (leaveV res body avs hids x) (leaveV res body avs hids y) := by cases b <;> rfl

/-- What is given back of each argument; 'nd' tells which temporaries the code never writes. -/
def outsN (nd : Nat → Bool) (t : TT) : Nat → List AV → Option (List AV)
  | _, [] => some []
  | j, .v _ :: l => (outsN nd t (j + 1) l).map fun r => .v (.agg []) :: r
  | j, .box _ :: l => if nd j then match t j, outsN nd t (j + 1) l with
      | .box cs, some r => some (.box cs :: r)
      | _, _ => none
    else none
  | j, .own .. :: l => if nd j then match t j, outsN nd t (j + 1) l with
      | .own n s cs, some r => some (.own n s cs :: r)
      | _, _ => none
    else none
  | j, .clo _ caps :: l => if nd j then match t j, outsN nd t (j + 1) l with
      | .clo f' caps', some r => if sameCaps caps caps' then some (.clo f' caps' :: r) else none
      | _, _ => none
    else none

theorem outsN_eq {nd : Nat → Bool} {body : WCode} (h : ∀ j, nd j = noDst j body.erase) : ∀ (l : List AV) (j : Nat), outsW body t j l = outsN nd t j l
  | [], j => rfl
  | .v _ :: l, j => by simp only [outsW, outsN, outsN_eq h l]
  | .box _ :: l, j => by simp only [outsW, outsN, outsN_eq h l, h]; rfl
  | .own .. :: l, j => by simp only [outsW, outsN, outsN_eq h l, h]; rfl
  | .clo .. :: l, j => by simp only [outsW, outsN, outsN_eq h l, h]; rfl

def leaveN (res : List ARes) (nd : Nat → Bool) (avs : List AV) (hids : List (List CV)) : Option (AExit × TT) → Option RW
  | some (.ret, t) | some (.normal, t) => if resOk avs res then match resW t res, outsN nd t 0 avs, houtsW t 0 hids with
    | some r, some o, some h => some (r, o, h)
    | _, _, _ => none
    else none
  | _ => none

def lvN (res : List ARes) (nd : Nat → Bool) (avs : List AV) (hids : List (List CV)) (t : TT) : Option RW :=
  if resOk avs res then match resW t res, outsN nd t 0 avs, houtsW t 0 hids with
    | some r, some o, some h => some (r, o, h)
    | _, _, _ => none
    else none

section
variable {res : List ARes} {nd : Nat → Bool} {avs : List AV} {hids : List (List CV)}
@[simp] theorem leaveN_ret : leaveN res nd avs hids (some (.ret, t)) = lvN res nd avs hids t := rfl
@[simp] theorem leaveN_normal : leaveN res nd avs hids (some (.normal, t)) = lvN res nd avs hids t := rfl
@[simp] theorem leaveN_none : leaveN res nd avs hids none = none := rfl
@[simp] theorem leaveN_ite {b : Bool} {x y : Option (AExit × TT)} : leaveN res nd avs hids (iteV b x y) = iteV b (leaveN res nd avs hids x) (leaveN res nd avs hids y) := by cases b <;> rfl
end
attribute [simp] lvN outsN

theorem callV_fn {f : String} {res : List ARes} {body : WCode} {avs : List AV} {hids : List (List CV)} {r : Option RW} (hE : E.fn f = some (.code res body))
    (h : ∀ nd : Nat → Bool, (∀ j, nd j = noDst j body.erase) → leaveN res nd avs hids (ex E [.c body] (argTT avs hids)) = r) : callV E f avs hids = r := by
  rw [callV_code hE, ← h (fun j => noDst j body.erase) (fun _ => rfl)]
  cases ex E [.c body] (argTT avs hids) with
  | none => rfl
  | some x =>
    obtain ⟨e, t⟩ := x
    cases e with
    | exit i => rfl
    | _ => simp only [leaveV, leaveN, leaveW, outsN_eq (nd := fun j => noDst j body.erase) (body := body) (fun _ => rfl)]; rfl

/-- The answer of a function that says true alone. -/
def aloneT : List AV → List (List CV) → Option RW := fun a _ => match a with
  | [] => some ([.v (.sc (.bool true))], [], [])
  | _ => none

end

/-! ### Words -/
theorem wrap_i64 {x : Int} (h : -9223372036854775808 ≤ x) (h' : x < 9223372036854775808) : IntKind.i64.wrap x = x := by rw [IntKind.wrap_i64]; omega
theorem wrap_u64 {x : Int} (h : 0 ≤ x) (h' : x < 18446744073709551616) : IntKind.u64.wrap x = x := by rw [IntKind.wrap_u64]; omega
theorem wrap_u16 (n : Int) : IntKind.u16.wrap n = n % 65536 := by simp [IntKind.wrap, IntKind.signed, IntKind.bits]
theorem wrap_u8 {x : Int} (h : 0 ≤ x) (h' : x < 256) : IntKind.u8.wrap x = x := by rw [IntKind.wrap_u8]; omega
end Go.Wb

/- From the value machine's answer to a law to the abstract machine's. -/
namespace Go.Wb
open Go

section
variable (B : Nat)
mutual
/-- Cells of a type, as values; no slice and no string is longer than 'B'. -/
def POk : Ty → List PV → Prop
  | .int k, cs => ∃ n, cs = [.sc (.int k n)] ∧ (Lit.int k n).wf = true
  | .bool, cs => ∃ b, cs = [.sc (.bool b)]
  | .str, cs => ∃ s : ByteArray, cs = [.sc (.string s)] ∧ s.size ≤ reach ∧ s.size ≤ B
  | .arr n e, cs => ∃ rows : List (List PV), rows.length = n ∧ cs = rows.flatten ∧ ∀ r ∈ rows, POk e r
  | .st fs, cs => POks fs cs
  | .sl s bytes e, cs => ∃ rows : List (List PV), cs = [.sl rows.length rows.flatten] ∧ rows.length * bytes ≤ reach ∧ rows.length ≤ B ∧ ∀ r ∈ rows, r.length = s ∧ POk e r
def POks : List Ty → List PV → Prop
  | [], cs => cs = []
  | t :: ts, cs => ∃ a b, cs = a ++ b ∧ POk t a ∧ POks ts b
end
end

abbrev N0 : Nat → Prop := fun _ => False

theorem frs_one {h : Heap} {N : Nat → Prop} {p : PV} {a : Value} (hf : FR h N p a) : FRs h N [p] [a] := ⟨rfl, fun i hi => by
  have : i = 0 := by simpa using hi
  subst this; exact hf⟩

theorem rows_pv {h : Heap} {B : Nat} {e : Ty} {rows : List (List Value)} (ih : ∀ r ∈ rows, ∃ ps, FRs h N0 ps r ∧ POk B e ps) : ∃ ps : List (List PV), ps.length = rows.length ∧ FRs h N0 ps.flatten rows.flatten ∧ ps.map List.length = rows.map List.length ∧ ∀ p ∈ ps, POk B e p := by
  induction rows with
  | nil => exact ⟨[], rfl, ⟨rfl, by simp⟩, rfl, by simp⟩
  | cons r rows ih2 =>
    obtain ⟨p, h1, h2⟩ := ih r (by simp)
    obtain ⟨ps, q1, q2, q3, q4⟩ := ih2 (fun r hr => ih r (by simp [hr]))
    refine ⟨p :: ps, by simp [q1], ?_, by simp [q3, h1.1], fun x hx => ?_⟩
    · simp only [List.flatten_cons]; exact frs_append h1 q2
    · cases hx with
      | head => exact h2
      | tail _ hx => exact q4 x hx

mutual
theorem aok_pv {B : Nat} {h : Heap} : ∀ (ty : Ty) (cs : List Value), AOk B ty h cs → ∃ ps, FRs h N0 ps cs ∧ POk B ty ps
  | .int k, cs, hh => by
    simp only [AOk] at hh
    obtain ⟨n, rfl, hw⟩ := hh
    exact ⟨_, frs_one (.sc _ rfl), by simp only [POk]; exact ⟨n, rfl, hw⟩⟩
  | .bool, cs, hh => by
    simp only [AOk] at hh
    obtain ⟨b, rfl⟩ := hh
    exact ⟨_, frs_one (.sc _ rfl), by simp only [POk]; exact ⟨b, rfl⟩⟩
  | .str, cs, hh => by
    simp only [AOk] at hh
    obtain ⟨s, rfl, h1, h2⟩ := hh
    exact ⟨_, frs_one (.sc _ rfl), by simp only [POk]; exact ⟨s, rfl, h1, h2⟩⟩
  | .arr n e, cs, hh => by
    simp only [AOk] at hh
    obtain ⟨rows, h1, rfl, h3⟩ := hh
    obtain ⟨ps, q1, q2, _, q4⟩ := rows_pv (fun r hr => aok_pv e r (h3 r hr))
    exact ⟨_, q2, by simp only [POk]; exact ⟨ps, by omega, rfl, q4⟩⟩
  | .st fs, cs, hh => by
    simp only [AOk] at hh
    obtain ⟨ps, q1, q2⟩ := aoks_pv fs cs hh
    exact ⟨ps, q1, by simp only [POk]; exact q2⟩
  | .sl s bytes e, cs, hh => by
    simp only [AOk] at hh
    rcases hh with rfl | ⟨b, rows, rfl, h1, h2, h3, h4, h5⟩
    · exact ⟨[.sl 0 []], frs_one .slNil, by simp only [POk]; exact ⟨[], rfl, by simp, by simp, by simp⟩⟩
    · obtain ⟨ps, q1, q2, q3, q4⟩ := rows_pv (fun r hr => aok_pv e r (h5 r hr).2)
      have hlen : ∀ p ∈ ps, p.length = s := by
        intro p hp
        have : p.length ∈ ps.map List.length := List.mem_map.2 ⟨p, hp, rfl⟩
        rw [q3] at this
        obtain ⟨r, hr, he⟩ := List.mem_map.1 this
        rw [← he, (h5 r hr).1]
      have hfl : ∀ (l : List (List PV)), (∀ p ∈ l, p.length = s) → l.flatten.length = l.length * s := by
        intro l
        induction l with
        | nil => simp
        | cons a l ih => intro hl; rw [List.flatten_cons, List.length_append, ih (fun p hp => hl p (by simp [hp])), hl a (by simp), List.length_cons, Nat.succ_mul]; omega
      refine ⟨[.sl ps.length ps.flatten], frs_one ?_, ?_⟩
      · rw [← q1]
        exact FR.sl _ s _ b 0 true rows.flatten (fun hf => hf) h2 (hfl ps hlen).symm (by rw [q2.1]; omega) fun i hi => by rw [Nat.zero_add]; exact q2.2 i hi
      · simp only [POk]
        exact ⟨ps, rfl, by rw [q1]; exact h3, by rw [q1]; exact h4, fun p hp => ⟨hlen p hp, q4 p hp⟩⟩
theorem aoks_pv {B : Nat} {h : Heap} : ∀ (tys : List Ty) (cs : List Value), AOks B tys h cs → ∃ ps, FRs h N0 ps cs ∧ POks B tys ps
  | [], cs, hh => by
    simp only [AOks] at hh
    subst hh
    exact ⟨[], ⟨rfl, by simp⟩, by simp only [POks]⟩
  | t :: ts, cs, hh => by
    simp only [AOks] at hh
    obtain ⟨a, b, rfl, h1, h2⟩ := hh
    obtain ⟨p, q1, q2⟩ := aok_pv t a h1
    obtain ⟨ps, q3, q4⟩ := aoks_pv ts b h2
    exact ⟨p ++ ps, frs_append q1 q3, by simp only [POks]; exact ⟨p, ps, rfl, q2, q4⟩⟩
end

def PVal (B : Nat) (ty : Ty) (p : PV) : Prop := if ty.agg then ∃ cs, p = .agg cs ∧ POk B ty cs else POk B ty [p]

def PArgs (B : Nat) : List Ty → List PV → Prop
  | [], vs => vs = []
  | ty :: tys, vs => ∃ v r, vs = v :: r ∧ PVal B ty v ∧ PArgs B tys r

theorem aval_pv {B : Nat} {h : Heap} {ty : Ty} {v : Value} (hv : AVal B ty h v) : ∃ p, FR h N0 p v ∧ PVal B ty p := by
  unfold AVal at hv
  unfold PVal
  split at hv
  · rename_i ha
    obtain ⟨cs, rfl, h1⟩ := hv
    obtain ⟨ps, q1, q2⟩ := aok_pv ty _ h1
    exact ⟨.agg ps, by simpa using frs_agg q1, by rw [if_pos ha]; exact ⟨ps, rfl, q2⟩⟩
  · rename_i ha
    obtain ⟨ps, q1, q2⟩ := aok_pv ty _ hv
    match ps, q1 with
    | [p], q1 => exact ⟨p, by simpa using q1.2 0 (by simp), by rw [if_neg ha]; exact q2⟩
    | [], q1 => have := q1.1; simp at this
    | _ :: _ :: _, q1 => have := q1.1; simp at this

theorem aargs_pv {B : Nat} {h : Heap} : ∀ {tys : List Ty} {avs : List Value}, AArgs B tys h avs → ∃ ps, PArgs B tys ps ∧ ps.length = avs.length ∧ ∀ i, i < ps.length → FR h N0 (ps.getD i default) (avs.getD i Go.undef)
  | [], avs, hh => by
    simp only [AArgs] at hh
    subst hh
    exact ⟨[], by simp only [PArgs], rfl, by simp⟩
  | ty :: tys, avs, hh => by
    simp only [AArgs] at hh
    obtain ⟨v, r, rfl, h1, h2⟩ := hh
    obtain ⟨p, q1, q2⟩ := aval_pv h1
    obtain ⟨ps, q3, q4, q5⟩ := aargs_pv h2
    refine ⟨p :: ps, by simp only [PArgs]; exact ⟨p, ps, rfl, q2, q3⟩, by simp [q4], fun i hi => ?_⟩
    cases i with
    | zero => exact q1
    | succ i => exact q5 i (by simpa using hi)

/-- A law that the value machine answers with true, the abstract machine does. -/
theorem lawV {EW : EnvW} {EA : Env} (hE : EnvSim EW EA) {name : String} {tys : List Ty} {B : Nat} (hn : tys.length ≤ hidB)
    (hlaw : ∀ ps, PArgs B tys ps → ∃ o ho, callV EW name (ps.map AV.v) [] = some ([.v (.sc (.bool true))], o, ho)) : ∀ avs h, NoOwn h → AArgs B tys h avs → ∃ h', callA EA name avs h = some (.bool true, h') := by
  intro avs h _ ha
  obtain ⟨ps, q1, q2, q3⟩ := aargs_pv ha
  obtain ⟨o, ho, hx⟩ := hlaw ps q1
  have hlen : ∀ {tys : List Ty} {ps : List PV}, PArgs B tys ps → ps.length = tys.length := by
    intro tys
    induction tys with
    | nil => intro ps hp; simp only [PArgs] at hp; subst hp; rfl
    | cons t tys ih => intro ps hp; simp only [PArgs] at hp; obtain ⟨v, r, rfl, _, h2⟩ := hp; simp [ih h2]
  have s0 : SR (fun _ => False) (fun _ _ => none) h (argTT (ps.map AV.v) []) (argT avs) := by
    refine ⟨fun i => ?_, by simp, by simp, by simp⟩
    unfold argTT
    rw [argTT'_at, if_pos (Nat.zero_le _), Nat.sub_zero, List.getElem?_map]
    cases hp : ps[i]? with
    | none =>
      simp only [Option.map_none]
      rw [hidT_at]
      split <;> simp [TR]
    | some p =>
      simp only [Option.map_some, tvA, TR]
      have hi : i < ps.length := (List.getElem?_eq_some_iff.1 hp).1
      have := q3 i hi
      rw [List.getD_eq_getElem?_getD, hp] at this
      exact FR.keep this (Keeps.less (by rintro b (hf | ⟨k, c, hk⟩); exact hf; cases hk))
  obtain ⟨v, h', β', p, X, g1, _, _, _, _, _, _, g8, _⟩ := callV_sim hE name _ _ _ _ _ hx (fun _ => False) (fun _ _ => none) h avs (by simp [q2]) (by rw [List.length_map, hlen q1]; exact hn) s0
  refine ⟨h', ?_⟩
  simp only [ResR, resTV, tvC, isRoot] at g8
  have g9 : FR h' _ (.sc (.bool true)) v := g8.1
  cases g9
  exact g1

theorem alone_sim {EA : Env} {f : String} (hA : EA f = some (.prim (alone true))) : CallSim (fun f' avs hids => if f' = f then aloneT avs hids else none) (callA EA) := by
  intro f' avs hids res outs houts hx M β h argsA hlen _ s
  simp only at hx
  split at hx
  · rename_i hf
    subst hf
    unfold aloneT at hx
    split at hx
    · injection hx with hx; injection hx with e1 hx; injection hx with e2 e3
      subst e1 e2 e3
      have : argsA = [] := List.length_eq_zero_iff.1 (by simpa using hlen)
      subst this
      refine ⟨.bool true, h, β, fun _ => none, fun _ => False, by rw [callA_prim hA]; rfl, rfl, .refl, ?_, by simp, by simp, by simp, ⟨.sc _ rfl, trivial⟩, by simp⟩
      have s' := s.set0.part (t' := outTT [] []) (fun i => .inr rfl)
      exact s'
    · cases hx
  · cases hx

/-! ### What a law is handed, taken apart -/
section
variable {B : Nat} {p : PV}
theorem pv_int {k : IntKind} (hv : PVal B (.int k) p) : ∃ n, p = .sc (.int k n) ∧ (Lit.int k n).wf = true := by
  simp only [PVal, Ty.agg, Bool.false_eq_true, if_false, POk] at hv
  obtain ⟨n, h1, h2⟩ := hv
  exact ⟨n, by simpa using h1, h2⟩
theorem pv_bool (hv : PVal B .bool p) : ∃ b, p = .sc (.bool b) := by
  simp only [PVal, Ty.agg, Bool.false_eq_true, if_false, POk] at hv
  obtain ⟨n, h1⟩ := hv
  exact ⟨n, by simpa using h1⟩
theorem pv_str (hv : PVal B .str p) : ∃ s : ByteArray, p = .sc (.string s) ∧ s.size ≤ reach ∧ s.size ≤ B := by
  simp only [PVal, Ty.agg, Bool.false_eq_true, if_false, POk] at hv
  obtain ⟨n, h1, h2⟩ := hv
  exact ⟨n, by simpa using h1, h2⟩
theorem prows_int {k : IntKind} : ∀ {rows : List (List PV)}, (∀ r ∈ rows, POk B (.int k) r) → ∃ l : List Int, l.length = rows.length ∧ rows.flatten = mp (fun n : Int => PV.sc (.int k n)) l ∧ ∀ x ∈ l, (Lit.int k x).wf = true
  | [], _ => ⟨[], rfl, rfl, by simp⟩
  | r :: rows, hr => by
    have h0 := hr r (by simp)
    simp only [POk] at h0
    obtain ⟨n, rfl, hn⟩ := h0
    obtain ⟨l, h1, h2, h3⟩ := prows_int (rows := rows) (fun r hm => hr r (by simp [hm]))
    refine ⟨n :: l, by simp [h1], by simp [h2, mp_cons], fun x hx => ?_⟩
    cases hx with
    | head => exact hn
    | tail _ hx => exact h3 x hx
theorem pv_arr {k : IntKind} {n : Nat} (hv : PVal B (.arr n (.int k)) p) : ∃ l : List Int, l.length = n ∧ p = .agg (mp (fun n : Int => PV.sc (.int k n)) l) ∧ ∀ x ∈ l, (Lit.int k x).wf = true := by
  simp only [PVal, Ty.agg, if_true] at hv
  obtain ⟨cs, rfl, hv⟩ := hv
  simp only [POk] at hv
  obtain ⟨rows, h1, rfl, h3⟩ := hv
  obtain ⟨l, q1, q2, q3⟩ := prows_int (B := B) (k := k) (rows := rows) (by simpa only [POk] using h3)
  exact ⟨l, by omega, by rw [q2], q3⟩
theorem pv_sl {k : IntKind} {by_ : Nat} (hv : PVal B (.sl 1 by_ (.int k)) p) : ∃ l : List Int, p = .sl l.length (mp (fun n : Int => PV.sc (.int k n)) l) ∧ (∀ x ∈ l, (Lit.int k x).wf = true) ∧ l.length * by_ ≤ reach ∧ l.length ≤ B := by
  simp only [PVal, Ty.agg, Bool.false_eq_true, if_false, POk] at hv
  obtain ⟨rows, h1, h2, h3, h4⟩ := hv
  obtain ⟨l, q1, q2, q3⟩ := prows_int (B := B) (k := k) (rows := rows) (by simpa only [POk] using fun r hr => (h4 r hr).2)
  exact ⟨l, by rw [q1, ← q2]; simpa using h1, q3, by rw [q1]; exact h2, by rw [q1]; exact h3⟩

theorem wf_i64 {n : Int} (h : (Lit.int .i64 n).wf = true) : -9223372036854775808 ≤ n ∧ n < 9223372036854775808 := by
  simp [Lit.wf, IntKind.min, IntKind.max, IntKind.signed, IntKind.bits] at h
  omega
theorem wf_u8 {n : Int} (h : (Lit.int .u8 n).wf = true) : 0 ≤ n ∧ n < 256 := by
  simp [Lit.wf, IntKind.min, IntKind.max, IntKind.signed, IntKind.bits] at h
  omega
theorem wf_u16 {n : Int} (h : (Lit.int .u16 n).wf = true) : 0 ≤ n ∧ n < 65536 := by
  simp [Lit.wf, IntKind.min, IntKind.max, IntKind.signed, IntKind.bits] at h
  omega
theorem wf_u32 {n : Int} (h : (Lit.int .u32 n).wf = true) : 0 ≤ n ∧ n < 4294967296 := by
  simp [Lit.wf, IntKind.min, IntKind.max, IntKind.signed, IntKind.bits] at h
  omega
theorem wf_u64 {n : Int} (h : (Lit.int .u64 n).wf = true) : 0 ≤ n ∧ n < 18446744073709551616 := by
  simp [Lit.wf, IntKind.min, IntKind.max, IntKind.signed, IntKind.bits] at h
  omega
theorem nats_of {l : List Int} {m : Nat} (h : ∀ x ∈ l, 0 ≤ x ∧ x < (m : Int)) : ∃ b : List Nat, l = b.map Int.ofNat ∧ ∀ x ∈ b, x < m := by
  refine ⟨l.map Int.toNat, ?_, ?_⟩
  · rw [List.map_map]
    have : l.map id = l := List.map_id l
    rw [← this]
    rw [List.map_map]
    apply List.map_congr_left
    intro x hx
    simp only [id, Function.comp]
    have := (h x hx).1
    exact (Int.toNat_of_nonneg this).symm
  · intro x hx
    obtain ⟨y, hy, rfl⟩ := List.mem_map.1 hx
    have := h y hy
    omega
/-- Bytes. -/
theorem pv_bytes (hv : PVal B (.sl 1 1 (.int .u8)) p) : ∃ b : List Nat, p = .sl b.length (bp b) ∧ (∀ x ∈ b, x < 256) ∧ b.length ≤ reach ∧ b.length ≤ B := by
  obtain ⟨l, h1, h2, h3, h4⟩ := pv_sl hv
  obtain ⟨b, rfl, q2⟩ := nats_of (l := l) (m := 256) (fun x hx => wf_u8 (h2 x hx))
  refine ⟨b, ?_, q2, by simpa using h3, by simpa using h4⟩
  rw [h1]
  simp [mp, List.map_map, Function.comp_def]
end
end Go.Wb

/- Numbers and lists, without any program. -/
namespace Go.Wb
open Go
attribute [simp] stN isV eqCell eqCells
attribute [simp] callW argsW arg1 nodupN boxesC boxC afterW backs backHs backH backTV resTV renum rootsOf refRW refA refCs refC hasRef hasRefs dynW capArgs tvA

def I64 (x : Int) : Prop := -9223372036854775808 ≤ x ∧ x < 9223372036854775808
def U64 (x : Int) : Prop := 0 ≤ x ∧ x < 18446744073709551616
theorem wrap_u32 {x : Int} (h : 0 ≤ x) (h' : x < 4294967296) : IntKind.u32.wrap x = x := by rw [IntKind.wrap_u32]; omega

abbrev vb (l : List Nat) : AV := .v (.sl l.length (bp l))
abbrev vi (a : Int) : AV := .v (.sc (.int .i64 a))
abbrev vk (k : IntKind) (a : Int) : AV := .v (.sc (.int k a))
abbrev vB (b : Bool) : AV := .v (.sc (.bool b))
abbrev vs (s : ByteArray) : AV := .v (.sc (.string s))
abbrev ri (a : Int) : CV := .v (.sc (.int .i64 a))
abbrev rk (k : IntKind) (a : Int) : CV := .v (.sc (.int k a))
abbrev rB (b : Bool) : CV := .v (.sc (.bool b))
abbrev rs (s : ByteArray) : CV := .v (.sc (.string s))
abbrev ro (l : List Nat) : CV := .o l.length 1 (bp l)
abbrev na : AV := .v (.agg [])

/-- The number of some bytes. -/
def num (l : List Nat) : Nat := l.foldl (fun n c => n * 256 + c) 0
theorem num_snoc (l : List Nat) (x : Nat) : num (l ++ [x]) = num l * 256 + x := by simp [num]
theorem num_lt_aux : ∀ (l : List Nat) (a : Nat), (∀ x ∈ l, x < 256) → l.foldl (fun n c => n * 256 + c) a < (a + 1) * 256 ^ l.length
  | [], a, _ => by simp
  | c :: l, a, h => by
    have h1 := num_lt_aux l (a * 256 + c) (fun x hx => h x (by simp [hx]))
    have h2 := h c (by simp)
    rw [List.foldl_cons, List.length_cons, Nat.pow_succ, Nat.mul_comm (256 ^ l.length), ← Nat.mul_assoc]
    refine Nat.lt_of_lt_of_le h1 (Nat.mul_le_mul_right _ (by omega))
theorem num_lt (l : List Nat) (h : ∀ x ∈ l, x < 256) : num l < 256 ^ l.length := by
  have := num_lt_aux l 0 h
  simpa [num] using this
theorem take_succ_getD {b : List Nat} {k : Nat} (h : k < b.length) : b.take (k + 1) = b.take k ++ [b.getD k 0] := by
  rw [List.take_add_one, List.getElem?_eq_getElem h]
  simp [List.getD, h]
theorem getD_mem {b : List Nat} {k : Nat} (h : k < b.length) : b.getD k 0 ∈ b := by
  simp [List.getD, h]
theorem getD_sub {b : List Nat} {o n k : Nat} (h : k < n) : ((b.drop o).take n).getD k 0 = b.getD (o + k) 0 := by
  simp [List.getD, h, List.getElem?_drop]
theorem drop_getD {b : List Nat} {k : Nat} (h : k < b.length) : b.drop k = b.getD k 0 :: b.drop (k + 1) := by
  rw [List.drop_eq_getElem_cons h]
  simp [List.getD, h]

theorem or_byte (n c : Nat) (hn : n < 72057594037927936) (hc : c < 256) : bits .or .u64 ((n : Int) * 256) (c : Int) = ((n * 256 + c : Nat) : Int) := by
  have := bits_join .u64 64 (by decide) (fun n h0 h1 => wrap_u64 h0 (by simpa using h1)) 8 ((n * 2 ^ 8 : Nat) : Int) c (by omega) (by omega) (by omega) (by omega) (by omega) (by omega)
  have e : ((n * 2 ^ 8 : Nat) : Int) = (n : Int) * 256 := by omega
  rw [e] at this
  rw [this]
  omega
end Go.Wb

/- Strings as lists of numbers. -/
namespace Go.Wb
open Go

def sb (l : List Nat) : ByteArray := ⟨(l.map UInt8.ofNat).toArray⟩
def All256 (l : List Nat) : Prop := ∀ x ∈ l, x < 256
@[simp] theorem sb_size {l : List Nat} : (sb l).size = l.length := by simp [sb, ByteArray.size]
@[simp] theorem sb_list {l : List Nat} : (sb l).data.toList = l.map UInt8.ofNat := by simp [sb]
theorem sb_of (s : ByteArray) : ∃ l : List Nat, s = sb l ∧ All256 l := by
  refine ⟨s.data.toList.map UInt8.toNat, ?_, ?_⟩
  · obtain ⟨d⟩ := s
    simp only [sb, List.map_map]
    congr 1
    have : (UInt8.ofNat ∘ UInt8.toNat) = id := by funext x; simp
    rw [this, List.map_id]
  · intro x hx
    rw [List.mem_map] at hx
    obtain ⟨y, _, rfl⟩ := hx
    exact y.toNat_lt
theorem sb_inj {l l' : List Nat} (h : All256 l) (h' : All256 l') : sb l = sb l' ↔ l = l' := by
  constructor
  · intro e
    have e2 : (sb l).data.toList.map UInt8.toNat = (sb l').data.toList.map UInt8.toNat := by rw [e]
    rw [sb_list, sb_list, List.map_map, List.map_map] at e2
    have f : ∀ m : List Nat, All256 m → m.map (UInt8.toNat ∘ UInt8.ofNat) = m := by
      intro m hm
      rw [← List.map_id m]
      simp only [List.map_map]
      apply List.map_congr_left
      intro x hx
      have := hm x hx
      simp only [Function.comp_apply, id]
      rw [UInt8.toNat_ofNat']
      omega
    rwa [f l h, f l' h'] at e2
  · intro e; rw [e]
@[simp] theorem bytesOf_bp : ∀ l : List Nat, bytesOf (bp l) = some (l.map UInt8.ofNat)
  | [] => rfl
  | x :: l => by
    have := bytesOf_bp l
    show bytesOf (PV.sc (.int .u8 (x : Int)) :: bp l) = _
    simp only [bytesOf, byteOf, this, Int.toNat_natCast, List.map_cons]
theorem isT_sb {l : List Nat} {k : IntKind} {a : Int} (h : All256 l) (h0 : 0 ≤ a) (h1 : a < l.length) : isT (.val (.sc (.string (sb l)))) (.val (.sc (.int k a))) = some (ti .u8 (l.getD a.toNat 0 : Nat)) := by
  have hl : a.toNat < l.length := by omega
  have hx : l.getD a.toNat 0 < 256 := h _ (getD_mem hl)
  rw [isT_at, if_pos h0, sb_list, List.getElem?_map, List.getElem?_eq_getElem hl]
  simp only [Option.map_some]
  have e : l.getD a.toNat 0 = l[a.toNat] := by simp [List.getD, hl]
  rw [e] at hx ⊢
  rw [UInt8.toNat_ofNat', Nat.mod_eq_of_lt (by omega)]
theorem str_beq {a b : ByteArray} : (a.toList == b.toList) = decide (a = b) := by
  rw [ByteArray.toList_eq, ByteArray.toList_eq, Bool.eq_iff_iff]
  simp only [beq_iff_eq, decide_eq_true_eq]
  constructor
  · intro h
    obtain ⟨x⟩ := a
    obtain ⟨y⟩ := b
    congr 1
    exact Array.toList_inj.1 h
  · intro h; rw [h]
end Go.Wb

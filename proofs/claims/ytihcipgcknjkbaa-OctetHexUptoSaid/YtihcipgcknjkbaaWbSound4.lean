/- The abstract machine's operations are sound: addresses, parts, slices of what is there, conversions. -/
import Derived.Test.YtihcipgcknjkbaaWbSound3
namespace Go.Wb
open Go
section
variable {P : Program} {ι : Inj} {h h' : Heap} {w : World} {t : T} {ρ : Operand → Value} {v : Value} {d : Option Tmp} {ty : TypeId} {pos : String} {af : Array Edge} {g : Option (Nat × Bool)}

theorem op_move {x : Operand} (hr : Rel ι h w) (he : ERel ι h.length t ρ) (hox : operOk x = true) (hx : aOp (.move x) t h = some (v, h')) :
    Does P (execOp ρ ⟨d, .move x, ty, pos, af, g⟩) ι h w v h' := by
  simp only [aOp] at hx
  injection hx with hx
  injection hx with h1 h2
  subst h1 h2
  exact ⟨ι, ρ x, w, .value (ρ x), rfl, .inl rfl, .refl hr, he x hox⟩

theorem op_assign {x : Operand} (hr : Rel ι h w) (he : ERel ι h.length t ρ) (hox : operOk x = true) (hx : aOp (.move x) t h = some (v, h')) :
    Does P (execOp ρ ⟨d, .assign x, ty, pos, af, g⟩) ι h w v h' := op_move (d := d) (ty := ty) (pos := pos) (af := af) (g := g) hr he hox hx

theorem op_pick {c a b : Operand} (hr : Rel ι h w) (he : ERel ι h.length t ρ) (hc : operOk c = true) (ha : operOk a = true) (hb : operOk b = true) (hx : aOp (.pick c a b) t h = some (v, h')) :
    Does P (execOp ρ ⟨d, .pick c a b, ty, pos, af, g⟩) ι h w v h' := by
  simp only [aOp] at hx
  have hcr := he c hc
  split at hx
  · rename_i heq
    rw [heq] at hcr
    injection hx with hx
    injection hx with h1 h2
    subst h1 h2
    refine ⟨ι, ρ a, w, .value (ρ a), ?_, .inl rfl, .refl hr, he a ha⟩
    simp [execOp, hcr.bool_inv, asBool]
  · rename_i heq
    rw [heq] at hcr
    injection hx with hx
    injection hx with h1 h2
    subst h1 h2
    refine ⟨ι, ρ b, w, .value (ρ b), ?_, .inl rfl, .refl hr, he b hb⟩
    simp [execOp, hcr.bool_inv, asBool]
  · cases hx

theorem op_nilCheck {x : Operand} (hr : Rel ι h w) (he : ERel ι h.length t ρ) (hox : operOk x = true) (hx : aOp (.nilCheck x) t h = some (v, h')) :
    Does P (execOp ρ ⟨d, .nilCheck x, ty, pos, af, g⟩) ι h w v h' := by
  simp only [aOp] at hx
  have hxr := he x hox
  split at hx
  · rename_i a heq
    injection hx with hx
    injection hx with h1 h2
    subst h1 h2
    rw [heq] at hxr
    generalize hy : ρ x = y at hxr
    cases hxr with
    | ptr b o hb =>
      refine ⟨ι, _, w, .value _, ?_, .inl rfl, .refl hr, .ptr b o hb⟩
      simp [execOp, hy]
  · rename_i f a c heq
    injection hx with hx
    injection hx with h1 h2
    subst h1 h2
    rw [heq] at hxr
    obtain ⟨f', c', hy, _, _⟩ := hxr.func_inv
    refine ⟨ι, ρ x, w, .value (ρ x), ?_, .inl rfl, .refl hr, hxr⟩
    simp [execOp, hy]
  · cases hx

theorem op_un {op : UnOp} {x : Operand} {e : TypeId} (hr : Rel ι h w) (he : ERel ι h.length t ρ) (hox : operOk x = true) (hx : aOp (.un op x) t h = some (v, h')) :
    Does P (execOp ρ ⟨d, .unOp op e x, ty, pos, af, g⟩) ι h w v h' := by
  simp only [aOp, Option.map_eq_some_iff] at hx
  obtain ⟨v1, hv, hx⟩ := hx
  injection hx with h1 h2
  subst h1 h2
  obtain ⟨q1, q2⟩ := aUn_sound (P := P) (w := w) hv (he x hox)
  exact Does.pure hr q1 q2

theorem op_convInt {k : IntKind} {x : Operand} {e e' : TypeId} {u : TypeDesc} (hr : Rel ι h w) (he : ERel ι h.length t ρ) (hox : operOk x = true) (hu : P.underlying e = some u) (hk : P.underlying e' = some (.int k)) (hx : aOp (.convInt k x) t h = some (v, h')) :
    Does P (execOp ρ ⟨d, .convert e e' x, ty, pos, af, g⟩) ι h w v h' := by
  simp only [aOp] at hx
  have hxr := he x hox
  split at hx
  · rename_i k' n heq
    injection hx with hx
    injection hx with h1 h2
    subst h1 h2
    rw [heq] at hxr
    refine Does.pure hr (v' := .int k (k.wrap n)) ?_ (.int _ _)
    rw [hxr.int_inv]
    simp [convert, run_under hu, run_under hk, Conv.intToInt]
  · cases hx

theorem op_convStr {x : Operand} {e e' : TypeId} (hr : Rel ι h w) (he : ERel ι h.length t ρ) (hox : operOk x = true) (hu : P.underlying e = some .string) (hk : P.underlying e' = some .string) (hx : aOp (.convStr x) t h = some (v, h')) :
    Does P (execOp ρ ⟨d, .convert e e' x, ty, pos, af, g⟩) ι h w v h' := by
  simp only [aOp] at hx
  have hxr := he x hox
  split at hx
  · rename_i s heq
    injection hx with hx
    injection hx with h1 h2
    subst h1 h2
    rw [heq] at hxr
    refine Does.pure hr (v' := .string s) ?_ (.string _)
    rw [hxr.string_inv]
    simp [convert, run_under hu, run_under hk]
  · cases hx

theorem op_iface {x : Operand} {e : TypeId} {u : TypeDesc} (hr : Rel ι h w) (he : ERel ι h.length t ρ) (hox : operOk x = true) (hu : P.underlying e = some u) (hn : ∀ ms, u ≠ .interface ms) (hx : aOp (.iface e x) t h = some (v, h')) :
    Does P (execOp ρ ⟨d, .makeInterface e x, ty, pos, af, g⟩) ι h w v h' := by
  simp only [aOp] at hx
  injection hx with hx
  injection hx with h1 h2
  subst h1 h2
  refine Does.pure hr (v' := .iface e (ρ x)) ?_ (.iface _ _ _ (he x hox))
  simp only [Instr.makeInterface, Sem.run_bind, run_under hu, Result.andThen_ok]
  rfl

theorem op_fieldAddr {x : Operand} {s : TypeId} {f : Nat} {fs : Array Field} {fd : Field} {j : TypeInfo} (hr : Rel ι h w) (he : ERel ι h.length t ρ) (hox : operOk x = true) (hs : P.underlying s = some (.struct fs)) (hf : fs[f]? = some fd)
    (hi : P.info? fd.type = some j) (hj : 1 ≤ j.size) (hx : aOp (.fieldAddr fd.offset x) t h = some (v, h')) :
    Does P (execOp ρ ⟨d, .fieldAddr s x f, ty, pos, af, g⟩) ι h w v h' := by
  simp only [aOp] at hx
  have hxr := he x hox
  split at hx
  · rename_i b o heq
    injection hx with hx
    injection hx with h1 h2
    subst h1 h2
    rw [heq] at hxr
    obtain ⟨hb, hp⟩ := hxr.ptr_inv
    refine Does.pure hr (v' := .pointer (some ⟨(ι b).blk, (ι b).off + (o + fd.offset), none⟩)) ?_ (.ptr b _ hb)
    rw [hp]
    simp only [Instr.fieldAt, Sem.run_bind, run_under hs, Result.andThen_ok, hf, Instr.sureAddr, fieldPlace, pure_bind, run_size hi, Sem.run_ite, Sem.run_pure]
    rw [if_neg (by omega)]
    simp only [Result.andThen_ok, addr_add, Nat.add_assoc]
  · cases hx

theorem op_field {x : Operand} {s : TypeId} {f : Nat} {fs : Array Field} {fd : Field} {n : Option Nat} (hr : Rel ι h w) (he : ERel ι h.length t ρ) (hox : operOk x = true) (hs : P.underlying s = some (.struct fs)) (hf : fs[f]? = some fd)
    (ha : aggN P fd.type = some n) (hx : aOp (.field n fd.offset x) t h = some (v, h')) :
    Does P (execOp ρ ⟨d, .field s x f, ty, pos, af, g⟩) ι h w v h' := by
  simp only [aOp] at hx
  have hxr := he x hox
  split at hx
  · rename_i cs heq
    rw [Option.map_eq_some_iff] at hx
    obtain ⟨v1, hv, hx⟩ := hx
    injection hx with h1 h2
    subst h1 h2
    rw [heq] at hxr
    obtain ⟨cs', hp, hc, hone⟩ := hxr.agg_inv
    obtain ⟨v', hv', hvr⟩ := crel_get hc hv
    obtain ⟨i, u, hi, hu, hag⟩ := aggN_none ha
    refine Does.pure hr (v' := v') ?_ hvr
    rw [hp]
    simp only [Instr.field, Sem.run_bind, run_under hs, Result.andThen_ok, hf, asAgg, pure_bind, part, run_isAgg hu, hag, Bool.false_eq_true, if_false]
    rw [Array.getElem?_toList] at hv'
    rw [hv']
    rfl
  · rename_i cs m heq
    injection hx with hx
    injection hx with h1 h2
    subst h1 h2
    rw [heq] at hxr
    obtain ⟨cs', hp, hc, hone⟩ := hxr.agg_inv
    obtain ⟨i, u, hi, hu, hag, hsz⟩ := aggN_some ha
    refine Does.pure hr (v' := .agg ((cs'.toList.drop fd.offset).take m).toArray) ?_ (agg_crel (crel_take (crel_drop hc _) _) (fun u hu => hone u (by simpa using List.mem_of_mem_drop (List.mem_of_mem_take hu))))
    rw [hp]
    simp only [Instr.field, Sem.run_bind, run_under hs, Result.andThen_ok, hf, asAgg, pure_bind, part, run_isAgg hu, hag, if_true, run_size hi, hsz, Sem.run_pure]
    congr 2
    apply Array.ext'
    simp [List.take_drop]
  · cases hx

theorem op_idxAddrArr {x i : Operand} {s e : TypeId} {n : Nat} {j : TypeInfo} (hr : Rel ι h w) (he : ERel ι h.length t ρ) (hox : operOk x = true) (hoi : operOk i = true) (hs : P.underlying s = some (.array n e)) (hj : P.info? e = some j)
    (hx : aOp (.idxAddrArr n j.size x i) t h = some (v, h')) :
    Does P (execOp ρ ⟨d, .indexAddr s x i, ty, pos, af, g⟩) ι h w v h' := by
  simp only [aOp] at hx
  have hxr := he x hox
  have hir := he i hoi
  split at hx
  · rename_i b o k i' heq heq2
    split at hx
    · rename_i hc
      injection hx with hx
      injection hx with h1 h2
      subst h1 h2
      rw [heq] at hxr
      rw [heq2] at hir
      obtain ⟨hb, hp⟩ := hxr.ptr_inv
      refine Does.pure hr (v' := .pointer (some ⟨(ι b).blk, (ι b).off + (o + i'.toNat * j.size), none⟩)) ?_ (.ptr b _ hb)
      rw [hp, hir.int_inv]
      simp only [Instr.indexAt, asIntOf, pure_bind, Sem.run_bind, run_under hs, Result.andThen_ok, Instr.sureAddr]
      rw [if_pos hc]
      simp only [Sem.run_bind, run_size hj, Result.andThen_ok, Sem.run_pure, addr_add, Nat.add_assoc]
    · cases hx
  · cases hx

theorem op_idxAddrSl {x i : Operand} {s e : TypeId} {j : TypeInfo} (hr : Rel ι h w) (he : ERel ι h.length t ρ) (hox : operOk x = true) (hoi : operOk i = true) (hs : P.underlying s = some (.slice e)) (hj : P.info? e = some j)
    (hx : aOp (.idxAddrSl j.size x i) t h = some (v, h')) :
    Does P (execOp ρ ⟨d, .indexAddr s x i, ty, pos, af, g⟩) ι h w v h' := by
  simp only [aOp] at hx
  have hxr := he x hox
  have hir := he i hoi
  split at hx
  · rename_i b o n sz k i' heq heq2
    split at hx
    · rename_i hc
      injection hx with hx
      injection hx with h1 h2
      subst h1 h2
      rw [heq] at hxr
      rw [heq2] at hir
      obtain ⟨hb, a, cap, hp, hl, hcap⟩ := hxr.slice_inv
      have hc3 := hcap (by omega)
      clear hcap
      obtain ⟨o', rfl, ho, hcap⟩ := hc3
      refine Does.pure hr (v' := .pointer (some ⟨(ι b).blk, (ι b).off + (o + i'.toNat * j.size), none⟩)) ?_ (.ptr b _ hb)
      rw [hp, hir.int_inv]
      simp only [Instr.indexAt, asIntOf, pure_bind, Sem.run_bind, run_under hs, Result.andThen_ok]
      rw [if_pos hc.2]
      simp only [Sem.run_bind, run_size hj, Result.andThen_ok, Sem.run_pure, addr_add]
      rw [ho (by omega), Nat.add_assoc]
    · cases hx
  · cases hx

theorem op_idxStr {x i : Operand} {s : TypeId} (hr : Rel ι h w) (he : ERel ι h.length t ρ) (hox : operOk x = true) (hoi : operOk i = true) (hs : P.underlying s = some .string)
    (hx : aOp (.idxStr x i) t h = some (v, h')) :
    Does P (execOp ρ ⟨d, .index s x i, ty, pos, af, g⟩) ι h w v h' := by
  simp only [aOp] at hx
  have hxr := he x hox
  have hir := he i hoi
  split at hx
  · rename_i str k i' heq heq2
    split at hx
    · rename_i hc
      rw [Option.map_eq_some_iff] at hx
      obtain ⟨b, hb, hx⟩ := hx
      injection hx with h1 h2
      subst h1 h2
      rw [heq] at hxr
      rw [heq2] at hir
      refine Does.pure hr (v' := .int .u8 b.toNat) ?_ (.int _ _)
      rw [hxr.string_inv, hir.int_inv]
      simp only [Instr.index, asIntOf, pure_bind, Sem.run_bind, run_under hs, Result.andThen_ok]
      rw [if_pos hc]
      have : str[i'.toNat]? = some b := by
        rw [Array.getElem?_toList] at hb
        rw [← hb]
        simp only [getElem?_def]
        rfl
      rw [this]
      rfl
    · cases hx
  · cases hx

theorem op_idxArr {x i : Operand} {s e : TypeId} {n : Nat} {j : TypeInfo} {m : Option Nat} (hr : Rel ι h w) (he : ERel ι h.length t ρ) (hox : operOk x = true) (hoi : operOk i = true) (hs : P.underlying s = some (.array n e)) (hj : P.info? e = some j) (ha : aggN P e = some m)
    (hx : aOp (.idxArr n j.size m x i) t h = some (v, h')) :
    Does P (execOp ρ ⟨d, .index s x i, ty, pos, af, g⟩) ι h w v h' := by
  simp only [aOp] at hx
  have hxr := he x hox
  have hir := he i hoi
  split at hx
  · rename_i cs k i' heq heq2
    split at hx
    · rename_i hc
      rw [Option.map_eq_some_iff] at hx
      obtain ⟨b, hb, hx⟩ := hx
      injection hx with h1 h2
      subst h1 h2
      rw [heq] at hxr
      rw [heq2] at hir
      obtain ⟨cs', hp, hcr, hone⟩ := hxr.agg_inv
      obtain ⟨v', hv', hvr⟩ := crel_get hcr hb
      obtain ⟨i2, u, hi, hu, hag⟩ := aggN_none ha
      refine Does.pure hr (v' := v') ?_ hvr
      rw [hp, hir.int_inv]
      simp only [Instr.index, asIntOf, pure_bind, Sem.run_bind, run_under hs, Result.andThen_ok]
      rw [if_pos hc]
      simp only [Sem.run_bind, run_size hj, Result.andThen_ok, part, run_isAgg hu, hag, Bool.false_eq_true, if_false]
      rw [Array.getElem?_toList] at hv'
      rw [hv']
      rfl
    · cases hx
  · rename_i cs k i' m' heq heq2
    split at hx
    · rename_i hc
      injection hx with hx
      injection hx with h1 h2
      subst h1 h2
      rw [heq] at hxr
      rw [heq2] at hir
      obtain ⟨cs', hp, hcr, hone⟩ := hxr.agg_inv
      obtain ⟨i2, u, hi, hu, hag, hsz⟩ := aggN_some ha
      rw [hj] at hi
      injection hi with hi
      subst hi
      refine Does.pure hr (v' := .agg ((cs'.toList.drop (i'.toNat * j.size)).take m').toArray) ?_ (agg_crel (crel_take (crel_drop hcr _) _) (fun u hu => hone u (by simpa using List.mem_of_mem_drop (List.mem_of_mem_take hu))))
      rw [hp, hir.int_inv]
      simp only [Instr.index, asIntOf, pure_bind, Sem.run_bind, run_under hs, Result.andThen_ok]
      rw [if_pos hc]
      simp only [Sem.run_bind, run_size hj, Result.andThen_ok, part, run_isAgg hu, hag, if_true, hsz, Sem.run_pure]
      congr 2
      apply Array.ext'
      simp [List.take_drop]
    · cases hx
  · cases hx

theorem op_extract {x : Operand} {i : Nat} (hr : Rel ι h w) (he : ERel ι h.length t ρ) (hox : operOk x = true) (hx : aOp (.extract x i) t h = some (v, h')) :
    Does P (execOp ρ ⟨d, .extract x i, ty, pos, af, g⟩) ι h w v h' := by
  simp only [aOp] at hx
  have hxr := he x hox
  split at hx
  · rename_i vs heq
    rw [Option.map_eq_some_iff] at hx
    obtain ⟨v1, hv, hx⟩ := hx
    injection hx with h1 h2
    subst h1 h2
    rw [heq] at hxr
    obtain ⟨vs', hp, hc⟩ := hxr.tuple_inv
    obtain ⟨v', hv', hvr⟩ := crel_get hc hv
    refine Does.pure hr (v' := v') ?_ hvr
    rw [hp]
    rw [Array.getElem?_toList] at hv'
    simp only [Instr.extract, hv']
    rfl
  · cases hx

end
end Go.Wb

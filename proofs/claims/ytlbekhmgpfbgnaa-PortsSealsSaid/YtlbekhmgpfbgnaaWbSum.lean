import Derived.RangeFuncRecord
import Derived.RangeFuncIn
import Derived.RangeFuncOwn
import Derived.RangeFuncBox
import Derived.RangeFuncCalls
import Derived.WalkKit
import Derived.OwnWalkIn
import Derived.TacticsInMore
import Derived.RegionIn
import Derived.LoopNIn
import Derived.LoopIn
import Derived.Test.YtlbekhmgpfbgnaaProg
import Derived.Test.YtlbekhmgpfbgnaaWbA6
set_option maxRecDepth 100000
set_option linter.all false
namespace Go.Proofs.Ytlbekhmgpfbgnaa.Wb.SumT
open Go Go.Proofs Go.RowKit
open Go.Wb (ws SlB)

/-- 'words': the slice is boxed, the function value has the box. -/
theorem words_in (n : Nat) (a : Option Addr) (l c : Nat) (w : World) :
    CallsIn Fence.wide n Try.prog 134 #[.slice a l c] w fun e w' => e = .returned (.func (.func 151) #[] #[.pointer (some ⟨w.heap.size, 0, none⟩)]) ∧ w' = w.alloc (.cells #[.slice a l c] 22) := by
  refine callsIn_of_wp Try.func134 rfl trivial ?_ rfl
  simp only [Try.ntmps134, List.size_toArray, List.length_cons, List.length_nil, Nat.reduceAdd, Nat.reduceSub, Array.replicate_succ, Array.replicate_zero, List.push_toArray, List.append_toArray, List.nil_append, List.cons_append]
  gi_wp2
  go_ret
  exact ⟨rfl, rfl⟩

/-- Two blocks turn, no others. -/
structure But (N L : Nat) (W W' : World) : Prop where
  os : W'.os = W.os
  tape : W'.tape = W.tape
  output : W'.output = W.output
  size : W'.heap.size = W.heap.size
  block : ∀ k, k ≠ N → k ≠ L → W'.heap[k]? = W.heap[k]?

def sumBody : Code := (Code.block 1 (Code.region 4 #[{ dst := some 8, op := Op.load 100 (Operand.tmp 3), type := 100, pos := "onesum.go:44", after := #[], guard := none }, { dst := some 9, op := Op.move (Operand.tmp 4), type := 45, pos := "onesum.go:44", after := #[], guard := none }, { dst := some 10, op := Op.convert 45 100 (Operand.tmp 9), type := 100, pos := "onesum.go:44", after := #[{ on := 1, ground := Ground.data }], guard := none }, { dst := some 11, op := Op.binOp BinOp.add 100 (Operand.tmp 8) (Operand.tmp 10) 100, type := 100, pos := "onesum.go:44", after := #[{ on := 0, ground := Ground.data }, { on := 2, ground := Ground.data }], guard := none }, { dst := none, op := Op.store 100 (Operand.tmp 3) (Operand.tmp 11), type := 0, pos := "onesum.go:44", after := #[{ on := 3, ground := Ground.data }, { on := 0, ground := Ground.phase }, { on := 1, ground := Ground.phase }, { on := 2, ground := Ground.phase }, { on := 3, ground := Ground.phase }], guard := none }] false))
def sumAssign : Code := (Code.region 3 #[{ dst := some 4, op := Op.assign (Operand.tmp 7), type := 45, pos := "onesum.go:43", after := #[], guard := none }] false)

def sumRec (fn : FuncId) (v : Value) (N M D : Nat) (st : LoopState) (pend : Option Code) : Loop :=
  { state := st, pending := pend, fn, tmps := #[v, undef, .int .u16 0, .pointer (some ⟨N, 0, none⟩), undef, v, .func (.func 151) #[] #[.pointer (some ⟨M, 0, none⟩)], undef, undef, undef, undef, undef, undef, undef], params := #[7], assign := sumAssign, body := sumBody, defers := D }

attribute [local go_sem] Oper.semAt_some
set_option maxHeartbeats 1000000 in
/-- One round: the word is added. -/
theorem round_in (m : Nat) (fn : FuncId) (v : Value) (N M D L : Nat) (hNL : N ≠ L) (W : World) (x acc : Int) (hN : Boxed W N 100 (.int .u64 acc)) (hL : W.heap[L]? = some (.loop (sumRec fn v N M D .ready none))) :
    YieldAt Fence.wide m Try.prog L #[.int .u16 x] W fun e W' => e = .returned (.bool true) ∧ But N L W W' ∧ Boxed W' N 100 (.int .u64 (IntKind.u64.wrap (acc + IntKind.u64.wrap x))) ∧ W'.heap[L]? = some (.loop (sumRec fn v N M D .ready none)) := by
  refine ⟨fn, _, sumAssign, sumBody, by simpa [sumRec] using run_yield (P := Try.prog) (args := #[.int .u16 x]) hL rfl, roundIn_of_wpIn trivial ?_⟩
  have hl : L < W.heap.size := (Array.getElem?_eq_some_iff.1 hL).1
  have hbr := run_beginRound (P := Try.prog) hL rfl
  obtain ⟨W2, hW2⟩ : ∃ W2, W.putObj L (.loop { sumRec fn v N M D .ready none with state := .busy }) = W2 := ⟨_, rfl⟩
  rw [hW2] at hbr
  have hN2 : Boxed W2 N 100 (.int .u64 acc) := by rw [← hW2]; exact (World.putObj_heap_other hNL).trans hN
  have hL2 : W2.heap[L]? = some (.loop { sumRec fn v N M D .ready none with state := .busy }) := by rw [← hW2]; exact World.putObj_heap_same hl
  have hc2 := hN2.cell
  have hf2 := hN2.frozen
  have hb2 : But N L W W2 := by rw [← hW2]; exact ⟨rfl, rfl, rfl, by simp, fun k _ hk => World.putObj_heap_other hk⟩
  clear hW2
  unfold sumAssign
  gi_wp2
  unfold sumBody
  gi_wp2
  have hL3 : (W2.setCell ⟨N, 0, none⟩ (.int .u64 (IntKind.u64.wrap (acc + IntKind.u64.wrap x)))).heap[L]? = some (.loop { sumRec fn v N M D .ready none with state := .busy }) :=
    (Below.heap_setCell W2 ⟨N, 0, none⟩ _ L (Ne.symm hNL)).trans hL2
  have hl3 : L < (W2.setCell ⟨N, 0, none⟩ (.int .u64 (IntKind.u64.wrap (acc + IntKind.u64.wrap x)))).heap.size := (Array.getElem?_eq_some_iff.1 hL3).1
  refine ⟨_, _, run_endRound none hL3, rfl, ⟨hb2.os, hb2.tape, hb2.output, ?_, fun k h1 h2 => ?_⟩, (World.putObj_heap_other hNL).trans (hN2.set _), World.putObj_heap_same hl3⟩
  · rw [World.putObj_size, ← hb2.size]; simp [World.setCell]
  · rw [World.putObj_heap_other h2]
    exact (Below.heap_setCell W2 ⟨N, 0, none⟩ _ k h1).trans (hb2.block k h1 h2)

/-- Between two rounds: what is left lies in the iterator's box; what is summed in the caller's. -/
structure It (fn : FuncId) (v : Value) (w0 : World) (N M D L : Nat) (rem : List Nat) (acc : Nat) (W : World) : Prop where
  below : Below w0.heap.size w0 W
  lt : ∀ x ∈ rem, x < 256
  nbox : Boxed W N 100 (.int .u64 (IntKind.u64.wrap acc))
  lrec : W.heap[L]? = some (.loop (sumRec fn v N M D .ready none))
  dfr : W.heap[D]? = some (.deferred (some []))
  mbox : ∃ a c, Boxed W M 22 (.slice a rem.length c) ∧ rem.length ≤ c ∧ (rem ≠ [] → ∃ B o, a = some ⟨B, o, none⟩ ∧ B < w0.heap.size ∧ ∀ i, i < rem.length → w0.cell? ⟨B, o + i, none⟩ = some (.int .u8 (rem.getD i 0)))

def remOf (M : Nat) (W : World) : Nat := match W.cell? ⟨M, 0, none⟩ with
  | some (.slice _ n _) => n
  | _ => 0

theorem remOf_box {M : Nat} {W : World} {a : Option Addr} {n c : Nat} (h : Boxed W M 22 (.slice a n c)) : remOf M W = n := by
  unfold remOf
  rw [h.cell]

/-- What is left at the end. -/
structure Fin (fn : FuncId) (v : Value) (w0 : World) (N M D L : Nat) (acc : Nat) (W : World) : Prop where
  below : Below w0.heap.size w0 W
  nbox : Boxed W N 100 (.int .u64 (IntKind.u64.wrap acc))
  lrec : W.heap[L]? = some (.loop (sumRec fn v N M D .ready none))
  dfr : W.heap[D]? = some (.deferred (some []))

theorem word_join {x y : Nat} (hx : x < 256) (hy : y < 256) : bits .or .u16 (IntKind.u16.wrap (IntKind.u16.wrap x * 256)) (IntKind.u16.wrap y) = ((x * 256 + y : Nat) : Int) := by
  have w : ∀ n : Int, 0 ≤ n → n < 65536 → IntKind.u16.wrap n = n := by
    intro n h0 h1
    have : IntKind.u16.wrap n = n % 65536 := by simp [IntKind.wrap, IntKind.signed, IntKind.bits]
    rw [this]; omega
  rw [w x (by omega) (by omega), w y (by omega) (by omega), w (x * 256) (by omega) (by omega)]
  have := bits_join .u16 16 (by decide) (fun n h0 h1 => w n h0 (by simpa using h1)) 8 ((x * 2 ^ 8 : Nat) : Int) y (by omega) (by omega) (by omega) (by omega) (by omega) (by omega)
  have e : ((x * 2 ^ 8 : Nat) : Int) = (x : Int) * 256 := by omega
  rw [e] at this
  rw [this]
  omega
theorem word_one {x : Nat} (hx : x < 256) : IntKind.u16.wrap (IntKind.u16.wrap x * 256) = ((x * 256 : Nat) : Int) := by
  have : ∀ n : Int, IntKind.u16.wrap n = n % 65536 := by intro n; simp [IntKind.wrap, IntKind.signed, IntKind.bits]
  rw [this, this]; omega
theorem acc_wrap (a b : Nat) : IntKind.u64.wrap (IntKind.u64.wrap (a : Int) + IntKind.u64.wrap (b : Int)) = IntKind.u64.wrap ((a + b : Nat) : Int) := by
  simp only [IntKind.wrap_u64]; omega

theorem But.below {B N L : Nat} {w0 W W' : World} (h : But N L W W') (hb : Below B w0 W) (hN : B ≤ N) (hL : B ≤ L) : Below B w0 W' :=
  hb.trans ⟨h.os, h.tape, h.output, by rw [h.size]; exact Nat.le_refl _, fun k hk => h.block k (by omega) (by omega)⟩

theorem It.next {fn : FuncId} {v : Value} {w0 : World} {N M D L x y : Nat} {rem : List Nat} {acc : Nat} {wr W3 : World} {a : Option Addr} {c B o : Nat} (h : It fn v w0 N M D L (x :: y :: rem) acc wr)
    (hN : w0.heap.size ≤ N) (hL : w0.heap.size ≤ L) (hM : w0.heap.size ≤ M) (hNM : N ≠ M) (hND : N ≠ D) (hML : M ≠ L) (hMD : M ≠ D) (hDL : D ≠ L) (hB3 : But N L wr.drew W3)
    (hN3 : Boxed W3 N 100 (.int .u64 (IntKind.u64.wrap (IntKind.u64.wrap acc + IntKind.u64.wrap (bits .or .u16 (IntKind.u16.wrap (IntKind.u16.wrap x * 256)) (IntKind.u16.wrap y))))))
    (hL3 : W3.heap[L]? = some (.loop (sumRec fn v N M D .ready none))) (hM3 : Boxed W3 M 22 (.slice a (rem.length + 1 + 1) c)) (hc : rem.length + 1 + 1 ≤ c)
    (hb : ∀ i, i < (x :: y :: rem).length → w0.cell? ⟨B, o + i, none⟩ = some (.int .u8 ((x :: y :: rem).getD i 0))) (hBl : B < w0.heap.size) :
    It fn v w0 N M D L rem (acc + (x * 256 + y)) (W3.setCell ⟨M, 0, none⟩ (.slice (if c = 2 then some ⟨B, o, none⟩ else some ⟨B, o + 2, none⟩) rem.length (c - 2))) := by
  have hx := h.lt x (by simp)
  have hy := h.lt y (by simp)
  rw [word_join hx hy, acc_wrap] at hN3
  refine ⟨(hB3.below (h.below.drew) hN hL).setCell hM _, fun z hz => h.lt z (by simp [hz]), (Below.heap_setCell _ _ _ N hNM).trans hN3, (Below.heap_setCell _ _ _ L (Ne.symm hML)).trans hL3,
    (Below.heap_setCell _ _ _ D (Ne.symm hMD)).trans ((hB3.block D (Ne.symm hND) hDL).trans h.dfr), _, _, hM3.set _, by omega, fun hne => ⟨B, o + 2, ?_, hBl, fun i hi => ?_⟩⟩
  · have : 0 < rem.length := List.length_pos_iff.2 hne
    rw [if_neg (by omega)]
  · have := hb (i + 2) (by simpa using hi)
    rw [show o + 2 + i = o + (i + 2) by omega]
    simpa using this

set_option maxHeartbeats 1000000 in
theorem iter_in (n : Nat) (fn : FuncId) (v : Value) (w0 : World) (N M D L : Nat) (hN : w0.heap.size ≤ N) (hM : w0.heap.size ≤ M) (hL : w0.heap.size ≤ L) (hNM : N ≠ M) (hNL : N ≠ L) (hNDd : N ≠ D) (hML : M ≠ L) (hMD : M ≠ D) (hDL : D ≠ L) (hn : 1 ≤ n) (rem0 : List Nat) (acc0 : Nat) (W : World) (h : It fn v w0 N M D L rem0 acc0 W) :
    CallsIn Fence.wide n Try.prog 151 #[.func (.yield L) #[] #[], .pointer (some ⟨M, 0, none⟩)] W fun e W' => (∃ v, e = .returned v) ∧ Fin fn v w0 N M D L (acc0 + ws rem0) W' := by
  refine callsIn_of_wp Try.func151 rfl trivial ?_ rfl
  simp only [Try.ntmps151, List.size_toArray, List.length_cons, List.length_nil, Nat.reduceAdd, Nat.reduceSub, Array.replicate_succ, Array.replicate_zero, List.push_toArray, List.append_toArray, List.nil_append, List.cons_append]
  gi_wp2
  gi_loopw [] (fun Wr => ∃ rem acc, It fn v w0 N M D L rem acc Wr ∧ acc + ws rem = acc0 + ws rem0) (fun Wr => remOf M Wr)
  case atStart =>
    exact ⟨rem0, acc0, h, rfl⟩
  case round =>
    obtain ⟨rem, acc, hIt, heq⟩ := hrel
    obtain ⟨a, c, hmb, hlc, hby⟩ := hIt.mbox
    rcases rem with _ | ⟨x, _ | ⟨y, rem⟩⟩
    · have hmc := hmb.cell
      simp only [List.length_nil] at hmc
      gi_wp2
      go_end0
      refine ⟨⟨_, rfl⟩, hIt.below, ?_, hIt.lrec, hIt.dfr⟩
      simp only [ws, Nat.add_zero] at heq
      rw [← heq]; exact hIt.nbox
    · have hmc := hmb.cell
      obtain ⟨B, o, rfl, hBl, hb⟩ := hby (by simp)
      have b0 := hb 0 (by simp)
      simp only [List.length_cons, List.length_nil, Nat.add_zero, Nat.zero_add, List.getD_cons_zero] at hmc b0 hlc
      have b0 := (World.cell?_of_block (hIt.below.block B hBl)).trans b0
      obtain ⟨f1, t1, a1, b1, hy, hR⟩ := round_in (n - 1) fn v N M D L hNL wr (IntKind.u16.wrap (IntKind.u16.wrap x * 256)) (IntKind.u64.wrap acc) hIt.nbox hIt.lrec
      gi_wp2
      refine hR.mono ?_
      rintro e W3 ⟨rfl, hB3, hN3, hL3⟩
      gi_wp2
      go_end0
      rw [word_one (hIt.lt x (by simp)), acc_wrap] at hN3
      simp only [ws] at heq
      rw [heq] at hN3
      exact ⟨⟨_, rfl⟩, hB3.below hIt.below hN hL, hN3, hL3, (hB3.block D (Ne.symm hNDd) hDL).trans hIt.dfr⟩
    · have hmc := hmb.cell
      obtain ⟨B, o, rfl, hBl, hb⟩ := hby (by simp)
      have b0 := hb 0 (by simp)
      have b1 := hb 1 (by simp)
      simp only [List.length_cons, Nat.add_zero, List.getD_cons_zero, List.getD_cons_succ] at hmc b0 b1 hlc
      have b0 := (World.cell?_of_block (hIt.below.block B hBl)).trans b0
      have b1 := (World.cell?_of_block (hIt.below.block B hBl)).trans b1
      have hc2 : rem.length + 1 + 1 ≤ c := by simpa using hlc
      have k0 : (0 : Int) < rem.length + 1 + 1 := by omega
      have k1 : (1 : Int) < rem.length + 1 + 1 := by omega
      gi_wp2
      obtain ⟨f1, t1, a1, b1, hy, hR⟩ := round_in (n - 1) fn v N M D L hNL wr.drew (bits .or .u16 (IntKind.u16.wrap (IntKind.u16.wrap x * 256)) (IntKind.u16.wrap y)) (IntKind.u64.wrap acc) hIt.nbox hIt.lrec
      refine wpIn_region_any (by kernel_rfl) ?_
      change wpAnyIn _ _ _ _ _ _ _ _ _ (World.drew _)
      refine wpAnyIn_take (i := 0) (v := ?_) rfl rfl (by kernel_rfl) (by kernel_rfl) (by kernel_rfl) (fun _ _ _ h => h) ⟨Or.inl ⟨by rfl, ?_⟩, fun _ => rfl⟩ ?_
      rotate_left
      · intro w; go_simp; all_goals (with_reducible rfl)
      refine wpAnyIn_ready (rs := [1, 6]) (by kernel_rfl) (by simp) ?_
      refine AllReadyIn.cons rfl (fun K hK => ?_) ?_
      · go_simp
        refine hK _ _ ?_; clear hK K
        refine wpAnyIn_take (i := 2) (v := ?_) rfl rfl (by kernel_rfl) (by kernel_rfl) (by kernel_rfl) (fun _ _ _ h => h) ⟨Or.inl ⟨by rfl, ?_⟩, fun _ => rfl⟩ ?_
        rotate_left
        · intro w; go_simp; all_goals (with_reducible rfl)
        refine wpAnyIn_ready (rs := [3, 6]) (by kernel_rfl) (by simp) ?_
        refine AllReadyIn.cons rfl (fun K hK => ?_) ?_
        · go_simp
          refine hK _ _ ?_; clear hK K
          refine wpAnyIn_take (i := 4) (v := ?_) rfl rfl (by kernel_rfl) (by kernel_rfl) (by kernel_rfl) (fun _ _ _ h => h) ⟨Or.inl ⟨by rfl, ?_⟩, fun _ => rfl⟩ ?_
          rotate_left
          · intro w; go_simp; all_goals (with_reducible rfl)
          refine wpAnyIn_take (i := 5) (v := ?_) rfl rfl (by kernel_rfl) (by kernel_rfl) (by kernel_rfl) (fun _ _ _ h => h) ⟨Or.inl ⟨by rfl, ?_⟩, fun _ => rfl⟩ ?_
          rotate_left
          · intro w; go_simp; all_goals (with_reducible rfl)
          refine wpAnyIn_ready (rs := [6]) (by kernel_rfl) (by simp) ?_
          refine AllReadyIn.cons rfl (fun K hK => ?_) ?_
          · go_simp
            refine hK _ _ ?_; clear hK K
            refine wpAnyIn_take (i := 7) (v := ?_) rfl rfl (by kernel_rfl) (by kernel_rfl) (by kernel_rfl) (fun _ _ _ h => h) ⟨Or.inl ⟨by rfl, ?_⟩, fun _ => rfl⟩ ?_
            rotate_left
            · intro w; go_simp; all_goals (with_reducible rfl)
            refine wpAnyIn_ready (rs := [8]) (by kernel_rfl) (by simp) ?_
            refine AllReadyIn.cons rfl (fun K hK => ?_) ?_
            · go_simp
              refine hK _ _ ?_; clear hK K
              refine wpAnyIn_take (i := 9) (v := ?_) rfl rfl (by kernel_rfl) (by kernel_rfl) (by kernel_rfl) (fun _ _ _ h => h) ⟨Or.inl ⟨by rfl, ?_⟩, fun _ => rfl⟩ ?_
              rotate_left
              · intro w; go_simp; all_goals (with_reducible rfl)
              refine wpAnyIn_take (i := 10) (v := ?_) rfl rfl (by kernel_rfl) (by kernel_rfl) (by kernel_rfl) (fun _ _ _ h => h) ⟨Or.inl ⟨by rfl, ?_⟩, fun _ => rfl⟩ ?_
              rotate_left
              · intro w; go_simp; all_goals (with_reducible rfl)
              refine wpAnyIn_ready (rs := [11]) (by kernel_rfl) (by simp) ?_
              refine AllReadyIn.cons rfl (fun K hK => ?_) ?_
              · go_simp
                refine hR.mono ?_
                rintro e W3 ⟨rfl, hB3, hN3, hL3⟩
                refine hK _ _ ?_; clear hK K
                refine wpAnyIn_take (i := 12) (v := ?_) rfl rfl (by kernel_rfl) (by kernel_rfl) (by kernel_rfl) (fun _ _ _ h => h) ⟨Or.inl ⟨by rfl, ?_⟩, fun _ => rfl⟩ ?_
                rotate_left
                · intro w; go_simp; all_goals (with_reducible rfl)
                refine wpAnyIn_done (by kernel_rfl) ?_ _
                have hM3 : Boxed W3 M 22 (.slice (some ⟨B, o, none⟩) (rem.length + 1 + 1) c) := (hB3.block M (Ne.symm hNM) hML).trans hmb
                have hm3 := hM3.cell
                have hf3 := hM3.frozen
                have h2c : (2 : Int) ≤ rem.length + 1 + 1 := by omega
                gi_wp2
                go_roundw
                case rel => exact ⟨rem, _, hIt.next hN hL hM hNM hNDd hML hMD hDL hB3 hN3 hL3 hM3 hc2 hb hBl, by rw [← heq]; simp only [ws]; omega⟩
                case measure => rw [remOf_box (hM3.set _), remOf_box hmb]; simp only [List.length_cons]; omega
              exact AllReadyIn.nil
            exact AllReadyIn.nil
          exact AllReadyIn.nil
        refine AllReadyIn.cons rfl (fun K hK => ?_) ?_
        · go_simp
          refine hK _ _ ?_; clear hK K
          refine wpAnyIn_take (i := 7) (v := ?_) rfl rfl (by kernel_rfl) (by kernel_rfl) (by kernel_rfl) (fun _ _ _ h => h) ⟨Or.inl ⟨by rfl, ?_⟩, fun _ => rfl⟩ ?_
          rotate_left
          · intro w; go_simp; all_goals (with_reducible rfl)
          refine wpAnyIn_ready (rs := [3, 8]) (by kernel_rfl) (by simp) ?_
          refine AllReadyIn.cons rfl (fun K hK => ?_) ?_
          · go_simp
            refine hK _ _ ?_; clear hK K
            refine wpAnyIn_take (i := 4) (v := ?_) rfl rfl (by kernel_rfl) (by kernel_rfl) (by kernel_rfl) (fun _ _ _ h => h) ⟨Or.inl ⟨by rfl, ?_⟩, fun _ => rfl⟩ ?_
            rotate_left
            · intro w; go_simp; all_goals (with_reducible rfl)
            refine wpAnyIn_take (i := 5) (v := ?_) rfl rfl (by kernel_rfl) (by kernel_rfl) (by kernel_rfl) (fun _ _ _ h => h) ⟨Or.inl ⟨by rfl, ?_⟩, fun _ => rfl⟩ ?_
            rotate_left
            · intro w; go_simp; all_goals (with_reducible rfl)
            refine wpAnyIn_ready (rs := [8]) (by kernel_rfl) (by simp) ?_
            refine AllReadyIn.cons rfl (fun K hK => ?_) ?_
            · go_simp
              refine hK _ _ ?_; clear hK K
              refine wpAnyIn_take (i := 9) (v := ?_) rfl rfl (by kernel_rfl) (by kernel_rfl) (by kernel_rfl) (fun _ _ _ h => h) ⟨Or.inl ⟨by rfl, ?_⟩, fun _ => rfl⟩ ?_
              rotate_left
              · intro w; go_simp; all_goals (with_reducible rfl)
              refine wpAnyIn_take (i := 10) (v := ?_) rfl rfl (by kernel_rfl) (by kernel_rfl) (by kernel_rfl) (fun _ _ _ h => h) ⟨Or.inl ⟨by rfl, ?_⟩, fun _ => rfl⟩ ?_
              rotate_left
              · intro w; go_simp; all_goals (with_reducible rfl)
              refine wpAnyIn_ready (rs := [11]) (by kernel_rfl) (by simp) ?_
              refine AllReadyIn.cons rfl (fun K hK => ?_) ?_
              · go_simp
                refine hR.mono ?_
                rintro e W3 ⟨rfl, hB3, hN3, hL3⟩
                refine hK _ _ ?_; clear hK K
                refine wpAnyIn_take (i := 12) (v := ?_) rfl rfl (by kernel_rfl) (by kernel_rfl) (by kernel_rfl) (fun _ _ _ h => h) ⟨Or.inl ⟨by rfl, ?_⟩, fun _ => rfl⟩ ?_
                rotate_left
                · intro w; go_simp; all_goals (with_reducible rfl)
                refine wpAnyIn_done (by kernel_rfl) ?_ _
                have hM3 : Boxed W3 M 22 (.slice (some ⟨B, o, none⟩) (rem.length + 1 + 1) c) := (hB3.block M (Ne.symm hNM) hML).trans hmb
                have hm3 := hM3.cell
                have hf3 := hM3.frozen
                have h2c : (2 : Int) ≤ rem.length + 1 + 1 := by omega
                gi_wp2
                go_roundw
                case rel => exact ⟨rem, _, hIt.next hN hL hM hNM hNDd hML hMD hDL hB3 hN3 hL3 hM3 hc2 hb hBl, by rw [← heq]; simp only [ws]; omega⟩
                case measure => rw [remOf_box (hM3.set _), remOf_box hmb]; simp only [List.length_cons]; omega
              exact AllReadyIn.nil
            exact AllReadyIn.nil
          refine AllReadyIn.cons rfl (fun K hK => ?_) ?_
          · go_simp
            refine hK _ _ ?_; clear hK K
            refine wpAnyIn_take (i := 9) (v := ?_) rfl rfl (by kernel_rfl) (by kernel_rfl) (by kernel_rfl) (fun _ _ _ h => h) ⟨Or.inl ⟨by rfl, ?_⟩, fun _ => rfl⟩ ?_
            rotate_left
            · intro w; go_simp; all_goals (with_reducible rfl)
            refine wpAnyIn_ready (rs := [3]) (by kernel_rfl) (by simp) ?_
            refine AllReadyIn.cons rfl (fun K hK => ?_) ?_
            · go_simp
              refine hK _ _ ?_; clear hK K
              refine wpAnyIn_take (i := 4) (v := ?_) rfl rfl (by kernel_rfl) (by kernel_rfl) (by kernel_rfl) (fun _ _ _ h => h) ⟨Or.inl ⟨by rfl, ?_⟩, fun _ => rfl⟩ ?_
              rotate_left
              · intro w; go_simp; all_goals (with_reducible rfl)
              refine wpAnyIn_take (i := 5) (v := ?_) rfl rfl (by kernel_rfl) (by kernel_rfl) (by kernel_rfl) (fun _ _ _ h => h) ⟨Or.inl ⟨by rfl, ?_⟩, fun _ => rfl⟩ ?_
              rotate_left
              · intro w; go_simp; all_goals (with_reducible rfl)
              refine wpAnyIn_take (i := 10) (v := ?_) rfl rfl (by kernel_rfl) (by kernel_rfl) (by kernel_rfl) (fun _ _ _ h => h) ⟨Or.inl ⟨by rfl, ?_⟩, fun _ => rfl⟩ ?_
              rotate_left
              · intro w; go_simp; all_goals (with_reducible rfl)
              refine wpAnyIn_ready (rs := [11]) (by kernel_rfl) (by simp) ?_
              refine AllReadyIn.cons rfl (fun K hK => ?_) ?_
              · go_simp
                refine hR.mono ?_
                rintro e W3 ⟨rfl, hB3, hN3, hL3⟩
                refine hK _ _ ?_; clear hK K
                refine wpAnyIn_take (i := 12) (v := ?_) rfl rfl (by kernel_rfl) (by kernel_rfl) (by kernel_rfl) (fun _ _ _ h => h) ⟨Or.inl ⟨by rfl, ?_⟩, fun _ => rfl⟩ ?_
                rotate_left
                · intro w; go_simp; all_goals (with_reducible rfl)
                refine wpAnyIn_done (by kernel_rfl) ?_ _
                have hM3 : Boxed W3 M 22 (.slice (some ⟨B, o, none⟩) (rem.length + 1 + 1) c) := (hB3.block M (Ne.symm hNM) hML).trans hmb
                have hm3 := hM3.cell
                have hf3 := hM3.frozen
                have h2c : (2 : Int) ≤ rem.length + 1 + 1 := by omega
                gi_wp2
                go_roundw
                case rel => exact ⟨rem, _, hIt.next hN hL hM hNM hNDd hML hMD hDL hB3 hN3 hL3 hM3 hc2 hb hBl, by rw [← heq]; simp only [ws]; omega⟩
                case measure => rw [remOf_box (hM3.set _), remOf_box hmb]; simp only [List.length_cons]; omega
              exact AllReadyIn.nil
            exact AllReadyIn.nil
          exact AllReadyIn.nil
        exact AllReadyIn.nil
      refine AllReadyIn.cons rfl (fun K hK => ?_) ?_
      · go_simp
        refine hK _ _ ?_; clear hK K
        refine wpAnyIn_take (i := 7) (v := ?_) rfl rfl (by kernel_rfl) (by kernel_rfl) (by kernel_rfl) (fun _ _ _ h => h) ⟨Or.inl ⟨by rfl, ?_⟩, fun _ => rfl⟩ ?_
        rotate_left
        · intro w; go_simp; all_goals (with_reducible rfl)
        refine wpAnyIn_ready (rs := [1, 8]) (by kernel_rfl) (by simp) ?_
        refine AllReadyIn.cons rfl (fun K hK => ?_) ?_
        · go_simp
          refine hK _ _ ?_; clear hK K
          refine wpAnyIn_take (i := 2) (v := ?_) rfl rfl (by kernel_rfl) (by kernel_rfl) (by kernel_rfl) (fun _ _ _ h => h) ⟨Or.inl ⟨by rfl, ?_⟩, fun _ => rfl⟩ ?_
          rotate_left
          · intro w; go_simp; all_goals (with_reducible rfl)
          refine wpAnyIn_ready (rs := [3, 8]) (by kernel_rfl) (by simp) ?_
          refine AllReadyIn.cons rfl (fun K hK => ?_) ?_
          · go_simp
            refine hK _ _ ?_; clear hK K
            refine wpAnyIn_take (i := 4) (v := ?_) rfl rfl (by kernel_rfl) (by kernel_rfl) (by kernel_rfl) (fun _ _ _ h => h) ⟨Or.inl ⟨by rfl, ?_⟩, fun _ => rfl⟩ ?_
            rotate_left
            · intro w; go_simp; all_goals (with_reducible rfl)
            refine wpAnyIn_take (i := 5) (v := ?_) rfl rfl (by kernel_rfl) (by kernel_rfl) (by kernel_rfl) (fun _ _ _ h => h) ⟨Or.inl ⟨by rfl, ?_⟩, fun _ => rfl⟩ ?_
            rotate_left
            · intro w; go_simp; all_goals (with_reducible rfl)
            refine wpAnyIn_ready (rs := [8]) (by kernel_rfl) (by simp) ?_
            refine AllReadyIn.cons rfl (fun K hK => ?_) ?_
            · go_simp
              refine hK _ _ ?_; clear hK K
              refine wpAnyIn_take (i := 9) (v := ?_) rfl rfl (by kernel_rfl) (by kernel_rfl) (by kernel_rfl) (fun _ _ _ h => h) ⟨Or.inl ⟨by rfl, ?_⟩, fun _ => rfl⟩ ?_
              rotate_left
              · intro w; go_simp; all_goals (with_reducible rfl)
              refine wpAnyIn_take (i := 10) (v := ?_) rfl rfl (by kernel_rfl) (by kernel_rfl) (by kernel_rfl) (fun _ _ _ h => h) ⟨Or.inl ⟨by rfl, ?_⟩, fun _ => rfl⟩ ?_
              rotate_left
              · intro w; go_simp; all_goals (with_reducible rfl)
              refine wpAnyIn_ready (rs := [11]) (by kernel_rfl) (by simp) ?_
              refine AllReadyIn.cons rfl (fun K hK => ?_) ?_
              · go_simp
                refine hR.mono ?_
                rintro e W3 ⟨rfl, hB3, hN3, hL3⟩
                refine hK _ _ ?_; clear hK K
                refine wpAnyIn_take (i := 12) (v := ?_) rfl rfl (by kernel_rfl) (by kernel_rfl) (by kernel_rfl) (fun _ _ _ h => h) ⟨Or.inl ⟨by rfl, ?_⟩, fun _ => rfl⟩ ?_
                rotate_left
                · intro w; go_simp; all_goals (with_reducible rfl)
                refine wpAnyIn_done (by kernel_rfl) ?_ _
                have hM3 : Boxed W3 M 22 (.slice (some ⟨B, o, none⟩) (rem.length + 1 + 1) c) := (hB3.block M (Ne.symm hNM) hML).trans hmb
                have hm3 := hM3.cell
                have hf3 := hM3.frozen
                have h2c : (2 : Int) ≤ rem.length + 1 + 1 := by omega
                gi_wp2
                go_roundw
                case rel => exact ⟨rem, _, hIt.next hN hL hM hNM hNDd hML hMD hDL hB3 hN3 hL3 hM3 hc2 hb hBl, by rw [← heq]; simp only [ws]; omega⟩
                case measure => rw [remOf_box (hM3.set _), remOf_box hmb]; simp only [List.length_cons]; omega
              exact AllReadyIn.nil
            exact AllReadyIn.nil
          refine AllReadyIn.cons rfl (fun K hK => ?_) ?_
          · go_simp
            refine hK _ _ ?_; clear hK K
            refine wpAnyIn_take (i := 9) (v := ?_) rfl rfl (by kernel_rfl) (by kernel_rfl) (by kernel_rfl) (fun _ _ _ h => h) ⟨Or.inl ⟨by rfl, ?_⟩, fun _ => rfl⟩ ?_
            rotate_left
            · intro w; go_simp; all_goals (with_reducible rfl)
            refine wpAnyIn_ready (rs := [3]) (by kernel_rfl) (by simp) ?_
            refine AllReadyIn.cons rfl (fun K hK => ?_) ?_
            · go_simp
              refine hK _ _ ?_; clear hK K
              refine wpAnyIn_take (i := 4) (v := ?_) rfl rfl (by kernel_rfl) (by kernel_rfl) (by kernel_rfl) (fun _ _ _ h => h) ⟨Or.inl ⟨by rfl, ?_⟩, fun _ => rfl⟩ ?_
              rotate_left
              · intro w; go_simp; all_goals (with_reducible rfl)
              refine wpAnyIn_take (i := 5) (v := ?_) rfl rfl (by kernel_rfl) (by kernel_rfl) (by kernel_rfl) (fun _ _ _ h => h) ⟨Or.inl ⟨by rfl, ?_⟩, fun _ => rfl⟩ ?_
              rotate_left
              · intro w; go_simp; all_goals (with_reducible rfl)
              refine wpAnyIn_take (i := 10) (v := ?_) rfl rfl (by kernel_rfl) (by kernel_rfl) (by kernel_rfl) (fun _ _ _ h => h) ⟨Or.inl ⟨by rfl, ?_⟩, fun _ => rfl⟩ ?_
              rotate_left
              · intro w; go_simp; all_goals (with_reducible rfl)
              refine wpAnyIn_ready (rs := [11]) (by kernel_rfl) (by simp) ?_
              refine AllReadyIn.cons rfl (fun K hK => ?_) ?_
              · go_simp
                refine hR.mono ?_
                rintro e W3 ⟨rfl, hB3, hN3, hL3⟩
                refine hK _ _ ?_; clear hK K
                refine wpAnyIn_take (i := 12) (v := ?_) rfl rfl (by kernel_rfl) (by kernel_rfl) (by kernel_rfl) (fun _ _ _ h => h) ⟨Or.inl ⟨by rfl, ?_⟩, fun _ => rfl⟩ ?_
                rotate_left
                · intro w; go_simp; all_goals (with_reducible rfl)
                refine wpAnyIn_done (by kernel_rfl) ?_ _
                have hM3 : Boxed W3 M 22 (.slice (some ⟨B, o, none⟩) (rem.length + 1 + 1) c) := (hB3.block M (Ne.symm hNM) hML).trans hmb
                have hm3 := hM3.cell
                have hf3 := hM3.frozen
                have h2c : (2 : Int) ≤ rem.length + 1 + 1 := by omega
                gi_wp2
                go_roundw
                case rel => exact ⟨rem, _, hIt.next hN hL hM hNM hNDd hML hMD hDL hB3 hN3 hL3 hM3 hc2 hb hBl, by rw [← heq]; simp only [ws]; omega⟩
                case measure => rw [remOf_box (hM3.set _), remOf_box hmb]; simp only [List.length_cons]; omega
              exact AllReadyIn.nil
            exact AllReadyIn.nil
          exact AllReadyIn.nil
        refine AllReadyIn.cons rfl (fun K hK => ?_) ?_
        · go_simp
          refine hK _ _ ?_; clear hK K
          refine wpAnyIn_take (i := 9) (v := ?_) rfl rfl (by kernel_rfl) (by kernel_rfl) (by kernel_rfl) (fun _ _ _ h => h) ⟨Or.inl ⟨by rfl, ?_⟩, fun _ => rfl⟩ ?_
          rotate_left
          · intro w; go_simp; all_goals (with_reducible rfl)
          refine wpAnyIn_ready (rs := [1]) (by kernel_rfl) (by simp) ?_
          refine AllReadyIn.cons rfl (fun K hK => ?_) ?_
          · go_simp
            refine hK _ _ ?_; clear hK K
            refine wpAnyIn_take (i := 2) (v := ?_) rfl rfl (by kernel_rfl) (by kernel_rfl) (by kernel_rfl) (fun _ _ _ h => h) ⟨Or.inl ⟨by rfl, ?_⟩, fun _ => rfl⟩ ?_
            rotate_left
            · intro w; go_simp; all_goals (with_reducible rfl)
            refine wpAnyIn_ready (rs := [3]) (by kernel_rfl) (by simp) ?_
            refine AllReadyIn.cons rfl (fun K hK => ?_) ?_
            · go_simp
              refine hK _ _ ?_; clear hK K
              refine wpAnyIn_take (i := 4) (v := ?_) rfl rfl (by kernel_rfl) (by kernel_rfl) (by kernel_rfl) (fun _ _ _ h => h) ⟨Or.inl ⟨by rfl, ?_⟩, fun _ => rfl⟩ ?_
              rotate_left
              · intro w; go_simp; all_goals (with_reducible rfl)
              refine wpAnyIn_take (i := 5) (v := ?_) rfl rfl (by kernel_rfl) (by kernel_rfl) (by kernel_rfl) (fun _ _ _ h => h) ⟨Or.inl ⟨by rfl, ?_⟩, fun _ => rfl⟩ ?_
              rotate_left
              · intro w; go_simp; all_goals (with_reducible rfl)
              refine wpAnyIn_take (i := 10) (v := ?_) rfl rfl (by kernel_rfl) (by kernel_rfl) (by kernel_rfl) (fun _ _ _ h => h) ⟨Or.inl ⟨by rfl, ?_⟩, fun _ => rfl⟩ ?_
              rotate_left
              · intro w; go_simp; all_goals (with_reducible rfl)
              refine wpAnyIn_ready (rs := [11]) (by kernel_rfl) (by simp) ?_
              refine AllReadyIn.cons rfl (fun K hK => ?_) ?_
              · go_simp
                refine hR.mono ?_
                rintro e W3 ⟨rfl, hB3, hN3, hL3⟩
                refine hK _ _ ?_; clear hK K
                refine wpAnyIn_take (i := 12) (v := ?_) rfl rfl (by kernel_rfl) (by kernel_rfl) (by kernel_rfl) (fun _ _ _ h => h) ⟨Or.inl ⟨by rfl, ?_⟩, fun _ => rfl⟩ ?_
                rotate_left
                · intro w; go_simp; all_goals (with_reducible rfl)
                refine wpAnyIn_done (by kernel_rfl) ?_ _
                have hM3 : Boxed W3 M 22 (.slice (some ⟨B, o, none⟩) (rem.length + 1 + 1) c) := (hB3.block M (Ne.symm hNM) hML).trans hmb
                have hm3 := hM3.cell
                have hf3 := hM3.frozen
                have h2c : (2 : Int) ≤ rem.length + 1 + 1 := by omega
                gi_wp2
                go_roundw
                case rel => exact ⟨rem, _, hIt.next hN hL hM hNM hNDd hML hMD hDL hB3 hN3 hL3 hM3 hc2 hb hBl, by rw [← heq]; simp only [ws]; omega⟩
                case measure => rw [remOf_box (hM3.set _), remOf_box hmb]; simp only [List.length_cons]; omega
              exact AllReadyIn.nil
            exact AllReadyIn.nil
          exact AllReadyIn.nil
        exact AllReadyIn.nil
      exact AllReadyIn.nil
set_option maxHeartbeats 2000000 in
theorem sum_in (foldS : Int → Int) (hfold : ∀ (m : Int) (W : World), 0 ≤ m → m < 18446744073709551616 → Calls Try.prog 135 #[.int .u64 m] W fun e W' => e = .returned (.int .u16 (foldS m)) ∧ Below W.heap.size W W')
    (n : Nat) (hn : 3 ≤ n) (a : Option Addr) (l c : Nat) (w : World) (bs : List Nat) (hs : SlB w a l c bs) :
    CallsIn Fence.wide n Try.prog 109 #[.slice a l c] w fun e W' => e = .returned (.int .u16 (foldS (IntKind.u64.wrap (ws bs)))) ∧ Below w.heap.size w W' := by
  have h1 : 1 ≤ n := by omega
  refine callsIn_of_wp_marks Try.func109 rfl trivial ?_ rfl
  simp only [Try.ntmps109, List.size_toArray, List.length_cons, List.length_nil, Nat.reduceAdd, Nat.reduceSub, Array.replicate_succ, Array.replicate_zero, List.push_toArray, List.append_toArray, List.nil_append, List.cons_append]
  gi_wp2_with (refine ⟨trivial, ?_⟩; gi_at_call 134; refine (words_in (n - 1) _ _ _ _).mono ?_; rintro e w' ⟨rfl, rfl⟩)
  refine wpIn_rangeFunc ?_
  intro fn hfn
  obtain ⟨W0, hW0⟩ : ∃ W0, (w.alloc (.cells #[.int .u64 0] 100)).alloc (.cells #[.slice a l c] 22) = W0 := ⟨_, rfl⟩
  have hs0 : W0.heap.size = w.heap.size + 2 := by rw [← hW0]; simp
  have hb0 : Below w.heap.size w W0 := by rw [← hW0]; exact ((Below.refl _ w).alloc (Nat.le_refl _) _).alloc (by simp) _
  have hn0 : Boxed W0 w.heap.size 100 (.int .u64 0) := by rw [← hW0]; exact (Boxed.new w 100 _).alloc _
  have hm0 : Boxed W0 (w.heap.size + 1) 22 (.slice a l c) := by
    rw [← hW0]
    have := Boxed.new (w.alloc (.cells #[.int .u64 0] 100)) 22 (.slice a l c)
    rwa [World.size_alloc] at this
  rw [hW0]
  obtain ⟨W1, hW1⟩ : ∃ W1, (W0.alloc (.deferred (some []))).alloc (.loop (sumRec fn (.slice a l c) w.heap.size (w.heap.size + 1) W0.heap.size .ready none)) = W1 := ⟨_, rfl⟩
  have hb1 : Below w.heap.size w W1 := by rw [← hW1]; exact (hb0.alloc (by omega) _).alloc (by simp; omega) _
  have hIt : It fn (.slice a l c) w w.heap.size (w.heap.size + 1) W0.heap.size (W0.heap.size + 1) bs 0 W1 := by
    refine ⟨hb1, hs.2.2.1, ?_, ?_, ?_, a, c, ?_, ?_, hs.2.2.2⟩
    · rw [← hW1]; exact (hn0.alloc _).alloc _
    · rw [← hW1]; have := World.alloc_heap_new (W0.alloc (.deferred (some []))) (.loop (sumRec fn (.slice a l c) w.heap.size (w.heap.size + 1) W0.heap.size .ready none)); rwa [World.size_alloc] at this
    · rw [← hW1]; exact (Below.heap_alloc _ _ _ (by simp)).trans (World.alloc_heap_new W0 _)
    · rw [← hW1, ← hs.1]; exact (hm0.alloc _).alloc _
    · rw [← hs.1]; exact hs.2.1
  refine ⟨W0.heap.size + 1, [{ target := .collected W0.heap.size, args := #[] }], W1, { target := .fn (.func 151) #[.pointer (some ⟨w.heap.size + 1, 0, none⟩)], args := #[.func (.yield (W0.heap.size + 1)) #[] #[]] }, W1, 151,
    #[.func (.yield (W0.heap.size + 1)) #[] #[], .pointer (some ⟨w.heap.size + 1, 0, none⟩)], W1, ?_, ?_, ?_, ?_, fun _ => h1, ?_⟩
  · rw [← hW1]; exact run_enterLoop_outer _ _ _ _ _
  · simp [resolve, go_sem]
  · intro f' _; trivial
  · simp [invoke, go_sem]
  · refine (iter_in (n - 1) fn (.slice a l c) w w.heap.size (w.heap.size + 1) W0.heap.size (W0.heap.size + 1) (by omega) (by omega) (by omega) (by omega) (by omega) (by omega) (by omega) (by omega) (by omega) (by omega) bs 0 W1 hIt).mono ?_
    rintro e W2 ⟨⟨v, rfl⟩, h2⟩
    have hend := run_endLoop (P := Try.prog) h2.lrec (by simp [sumRec])
    obtain ⟨W3, hW3⟩ : ∃ W3, W2.putObj (W0.heap.size + 1) (.loop { sumRec fn (.slice a l c) w.heap.size (w.heap.size + 1) W0.heap.size .ready none with state := .exhausted }) = W3 := ⟨_, rfl⟩
    rw [hW3] at hend
    have hn3 : Boxed W3 w.heap.size 100 (.int .u64 (IntKind.u64.wrap (0 + ws bs : Nat))) := by rw [← hW3]; exact (World.putObj_heap_other (by omega)).trans h2.nbox
    have hK3 : W3.heap[W0.heap.size]? = some (.deferred (some [])) := by rw [← hW3]; exact (World.putObj_heap_other (by omega)).trans h2.dfr
    have hb3 : Below w.heap.size w W3 := by
      rw [← hW3]
      exact h2.below.trans ⟨rfl, rfl, rfl, by simp, fun k hk => World.putObj_heap_other (by omega)⟩
    rw [Nat.zero_add] at hn3
    clear hW3
    have hc3 := hn3.cell
    refine ⟨none, W3, hend, ?_⟩
    have hr0 : 0 ≤ IntKind.u64.wrap (ws bs) := by rw [IntKind.wrap_u64]; omega
    have hr1 : IntKind.u64.wrap (ws bs) < 18446744073709551616 := by rw [IntKind.wrap_u64]; omega
    have hD3 : W0.heap.size < W3.heap.size := (Array.getElem?_eq_some_iff.1 hK3).1
    gi_wp2_with (refine ⟨trivial, ?_⟩; gi_at_call 135; refine (callsIn_wide.2 (hfold _ _ hr0 hr1)).mono ?_; rintro e w4 ⟨rfl, hb4⟩)
    have hK4 := (hb4.block _ hD3).trans hK3
    rw [hs0] at hK4
    refine ⟨by simp, .inl ⟨_, _, rfl, run_takeDeferred hK4, ?_⟩⟩
    refine ⟨_, results_tmp rfl _ _ _, rfl, ?_⟩
    exact (hb3.trans (hb4.mono (by have := hb3.size; omega))).trans ⟨rfl, rfl, rfl, by simp, fun k hk => World.putObj_heap_other (by omega)⟩

end Go.Proofs.Ytlbekhmgpfbgnaa.Wb.SumT

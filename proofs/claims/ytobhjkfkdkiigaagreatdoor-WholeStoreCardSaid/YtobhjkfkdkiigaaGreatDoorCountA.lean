/- Layer 6: slices.Sorted of whatever an iterator of ints gives (sorted_of); slices.Values. -/
import Derived.RangeFuncBox
import Derived.RangeFuncLeaves
import Derived.RangeFuncNested
import Derived.RangeFuncBound
import Derived.RangeFuncCalls
import Derived.Shelf.Abstract
import Derived.WalkKit
import Derived.OwnWalkIn
import Derived.TacticsInMore
import Derived.LoopNIn
import Derived.LoopIn
import Derived.Maps.AppendAt
import Derived.Sort.OwnSortedInts
import Derived.Lib.Hide
import Derived.Test.YtobhjkfkdkiigaaGreatDoorBase
import Derived.Test.YtobhjkfkdkiigaaGreatDoorRow
import Derived.Test.YtobhjkfkdkiigaaGreatDoorShelfD
namespace Go.Proofs.YtobhjkfkdkiigaaGreatDoor
open Go.RowKit Go.Shelf Go.Maps Go.Sort
attribute [local go_sem] Oper.semAt_some
def zVc (l : List Int) : List Value := l.map (Value.int .i64)
theorem info_intD : (Tryz.prog.info? 3).map (fun i => (i.zero, i.size, i.bytes)) = some (some (.int .i64 0), 1, 8) := by kernel_rfl
set_option maxRecDepth 100000 in
set_option maxHeartbeats 2000000 in
theorem appendSeq_ok {Kp : World → World → Prop} {S Sp : List Int → Prop} {N : Nat} (w : World) (g : Nat) (lb : Array Value) (eg : ∀ args w, (callFunc g args).run Tryz.prog w = .ok (.enter g args) w) (hseq : SeqStopsK Fence.wide 5 Tryz.prog g lb (fun x : Int => #[Value.int .i64 x]) Kp S Sp N w)
    (hKt : ∀ {A B C : World}, Kp A B → Kp B C → Kp A C) (hKb : ∀ (W : World) (l : Nat) (o o' : Obj), w.heap.size ≤ l → W.heap[l]? = some o → o.isCells = false → o.isWalk = false → Kp W (W.putObj l o')) (hKc : ∀ W W', KeepsOthers W W' → Below w.heap.size W W' → Kp W W') (hN : N ≤ 1048576) :
    Calls Tryz.prog 179 #[.slice none 0 0, .func (.func g) #[] lb] w fun e W' => ∃ v ss, e = .returned v ∧ S ss ∧ W'.ownsRow w.heap.size 3 1 v ss.length (zVc ss) ∧ Below w.heap.size w W' := by
  refine (callsIn_wide (n := 6)).1 ?_
  obtain ⟨i0, hi, hz0, hz1, hz2⟩ := info_parts info_intD
  refine callsIn_of_wp_marks Tryz.func179 rfl trivial ?_ rfl
  simp only [Tryz.ntmps179, List.size_toArray, List.length_cons, List.length_nil, Nat.reduceAdd, Nat.reduceSub, Array.replicate_succ, Array.replicate_zero, List.push_toArray, List.append_toArray, List.nil_append, List.cons_append]
  gi_wp2
  have bO := Boxed.new w 45 (.slice none 0 0)
  have hB0 : Below w.heap.size w (w.alloc (.cells #[.slice none 0 0] 45)) := (Below.refl _ w).alloc (Nat.le_refl _) _
  refine wpIn_rangeFunc_ownG rfl (by decide) (gf := g) (lb := lb) rfl trivial eg hseq hKt (fun W l o o' hl => hKb W l o o' (by simp at hl; omega)) hB0 (fun _ => rfl)
    (fun pre W => (∃ v, Boxed W w.heap.size 45 v ∧ W.ownsRow w.heap.size 3 1 v pre.length (zVc pre) ∧ True) ∧ Below w.heap.size w W)
    (fun _ _ _ => False)
    (OwnFrom.and (Own.from (holdsRow_own w.heap.size w.heap.size 45 3 1 (fun pre => pre.length) (fun pre => zVc pre) (fun _ _ => True)) _) (ownFrom_below (Nat.le_refl _) (by simp)))
    (fun _ _ _ _ _ hs _ _ => hs)
    ⟨⟨_, bO, World.ownsRow_nil _ _ _ _, trivial⟩, hB0⟩
    (fun x => { tmps := #[.slice none 0 0, .func (.func g) #[] lb, .pointer (some ⟨w.heap.size, 0, none⟩), undef, .slice none 0 0, .int .i64 x, .func (.func g) #[] lb, .int .i64 x, undef, undef, undef, undef, undef], defers := [] }) ?assign ?body ?done ?stop
  case assign =>
    intro l x W K hK
    gi_wp2
    exact hK
  case body =>
    rintro l pre x W ⟨⟨v, hv, hrow, _⟩, hB⟩ hlt
    have hc := hv.cell
    have hlt2 : pre.length < 1048576 := by omega
    clear hKt hKb hseq eg
    gi_wp2_with (gi_at_builtin; refine wpListIn_append_own _ rfl _ _ 45 rfl w.heap.size 3 i0 (.int .i64 0) 1 8 Tryz.underlying45 hi hz0 hz1 hz2 rfl (by decide) _ _ _ rfl (hrow.alloc _) ⟨W.heap.size, 0, none⟩ 1 1 [.int .i64 x] rfl rfl (cell_one_new _ _ _) (by simp [Value.oneCell']) (by unfold maxLen; omega) (by omega) (by have := hB.size; simp; omega) ?_; intro v' w1 hown' hgrow _; obtain ⟨g', cap', rfl⟩ := ownsRow_succ hown'; obtain ⟨hv1, hv2, hr2, hk2, hb2⟩ := hv.appended (by decide) hrow hB.size (Nat.le_refl _) hown' hgrow; have hc1 := hv1.cell; have hf1 := hv1.frozen)
    exact ⟨hk2.from _, hKc _ _ hk2 hb2, ⟨_, hv2, by unfold zVc; simpa [zVc] using hr2, trivial⟩, hB.trans hb2⟩
  case done =>
    rintro D ys W hD hS ⟨⟨v, hv, hrow, _⟩, hB⟩ hK
    have hc := hv.cell
    clear hKt hKb hseq eg hKc
    gi_wp2
    refine ⟨by simp, .inl ⟨_, _, rfl, run_takeDeferred hK, ?_⟩⟩
    exact ⟨_, results_tmp rfl _ _ _, v, ys, rfl, hS, ownsRow_putObj hrow _ hK rfl, hB.trans (belowK_b (w := w) (Nat.le_refl _) W D _ _ (by simp at hD; omega) hK rfl rfl)⟩
  case stop =>
    rintro D c pre W _ _ h _
    exact h.elim
theorem collect_ok {Kp : World → World → Prop} {S Sp : List Int → Prop} {N : Nat} (w : World) (g : Nat) (lb : Array Value) (eg : ∀ args w, (callFunc g args).run Tryz.prog w = .ok (.enter g args) w) (hseq : SeqStopsK Fence.wide 5 Tryz.prog g lb (fun x : Int => #[Value.int .i64 x]) Kp S Sp N w)
    (hKt : ∀ {A B C : World}, Kp A B → Kp B C → Kp A C) (hKb : ∀ (W : World) (l : Nat) (o o' : Obj), w.heap.size ≤ l → W.heap[l]? = some o → o.isCells = false → o.isWalk = false → Kp W (W.putObj l o')) (hKc : ∀ W W', KeepsOthers W W' → Below w.heap.size W W' → Kp W W') (hN : N ≤ 1048576) :
    Calls Tryz.prog 168 #[.func (.func g) #[] lb] w fun e W' => ∃ v ss, e = .returned v ∧ S ss ∧ W'.ownsRow w.heap.size 3 1 v ss.length (zVc ss) ∧ Below w.heap.size w W' := by
  have HC := Lib.hid (appendSeq_ok w g lb eg hseq hKt hKb hKc hN)
  clear eg hseq hKt hKb hKc
  go_enter Tryz.func168, Tryz.ntmps168
  go_wp2_with fail
  refine HC.out.mono ?_
  rintro e w' ⟨v, ss, rfl, hS, hrow, hb⟩
  have HP := Lib.hid (And.intro hS (And.intro hrow hb))
  clear hS hrow hb
  go_wp2_with fail
  go_ret
  exact ⟨v, ss, rfl, HP.out.1, HP.out.2.1, HP.out.2.2⟩
/-- **slices.Sorted of whatever the iterator gives** -/
theorem sorted_of {Kp : World → World → Prop} {S Sp : List Int → Prop} {N : Nat} (w : World) (g : Nat) (lb : Array Value) (eg : ∀ args w, (callFunc g args).run Tryz.prog w = .ok (.enter g args) w) (hseq : SeqStopsK Fence.wide 5 Tryz.prog g lb (fun x : Int => #[Value.int .i64 x]) Kp (fun ss => S ss ∧ ss.length ≤ 1048576) Sp N w)
    (hKt : ∀ {A B C : World}, Kp A B → Kp B C → Kp A C) (hKb : ∀ (W : World) (l : Nat) (o o' : Obj), w.heap.size ≤ l → W.heap[l]? = some o → o.isCells = false → o.isWalk = false → Kp W (W.putObj l o')) (hKc : ∀ W W', KeepsOthers W W' → Below w.heap.size W W' → Kp W W') (hN : N ≤ 1048576) :
    Calls Tryz.prog 153 #[.func (.func g) #[] lb] w fun e W' => ∃ v ss, e = .returned v ∧ S ss ∧ W'.ownsRow w.heap.size 3 1 v ss.length (zVc (ss.mergeSort fun x y => decide (x ≤ y))) ∧ Below w.heap.size w W' := by
  have HC := Lib.hid (collect_ok w g lb eg hseq hKt hKb hKc hN)
  clear eg hseq hKt hKb hKc
  go_enter Tryz.func153, Tryz.ntmps153
  go_wp2_with fail
  refine HC.out.mono ?_
  rintro e W ⟨v, ss, rfl, ⟨hS, hlen⟩, hrow, hb⟩
  rcases hrow.2 with ⟨rfl, hz⟩ | ⟨gb, cap, cur, rfl, hbase, hgb, r1, r2, r3, r4⟩
  · have hss : ss = [] := List.eq_nil_of_length_eq_zero hz
    subst hss
    have HP := Lib.hid (And.intro hS (And.intro hrow hb))
    clear hS hrow hb HC hz hlen
    go_wp2_with fail
    refine (Tryz.slices_Sort_int_none none 0 W).mono ?_
    rintro e w' ⟨rfl, hw⟩
    have HW := Lib.hid hw
    clear hw
    go_wp2_with fail
    go_ret
    exact ⟨_, [], rfl, HP.out.1, by rw [HW.out, show (([] : List Int).mergeSort fun x y => decide (x ≤ y)) = [] from by simp]; exact HP.out.2.1, by rw [HW.out]; exact HP.out.2.2⟩
  · have hH : Go.Sort.Holds (Value.int .i64) W gb 0 ss.toArray := holds_of_block_i hgb (by simpa [zVc] using r4)
    have hgl : gb < W.heap.size := (Array.getElem?_eq_some_iff.1 hgb).1
    have HS := Lib.hid (Tryz.slices_Sort_int gb 0 cap ss W hH hgl (by omega))
    have HP := Lib.hid (And.intro hS hb)
    have HR := Lib.hid (And.intro hbase (And.intro hgb (And.intro r1 (And.intro r2 r3))))
    clear hS hrow hb HC hlen hbase hgb r1 r2 r3 r4 hH hgl
    go_wp2_with fail
    refine HS.out.mono ?_
    rintro e w' ⟨rfl, nn, os, hw⟩
    have HW := Lib.hid hw
    clear hw
    go_wp2_with fail
    go_ret
    obtain ⟨hbase, hgb, r1, r2, r3⟩ := HR.out
    refine ⟨_, ss, rfl, HP.out.1, ?_, ?_⟩
    · rw [HW.out]; exact ownsRow_sorted_i (by simp) hbase hgb r1 r2 r3
    · rw [HW.out]; exact HP.out.2.grown (grownBy_sorted_i _) HP.out.2.size (fun j hj => by cases hj; exact hbase)
/-! ### slices.Values -/
def upto (zs : List Int) (k : Nat) : List Int := zs.take k
theorem upto_succ (zs : List Int) {k : Nat} (h : k < zs.length) : zs.take (k + 1) = zs.take k ++ [zs[k]] := by rw [List.take_succ_eq_append_getElem h]
set_option maxRecDepth 100000 in
set_option maxHeartbeats 2000000 in
theorem values1_in (l Bs n0 : Nat) (a : Option Addr) (cap : Nat) (zs : List Int) (hreach : zs.length ≤ 1048576) (J Jx : List Int → World → Prop)
    (hY : ∀ pre x W, J pre W → pre.length < zs.length → YieldAt Fence.wide (5 - 1) Tryz.prog l #[.int .i64 x] W fun e W' =>
      (e = .returned (.bool true) ∧ J (pre ++ [x]) W' ∧ Below n0 W W') ∨ (e = .returned (.bool false) ∧ Jx (pre ++ [x]) W'))
    (W : World) (hBs : W.cell? ⟨Bs, 0, none⟩ = some (.slice a zs.length cap)) (hc : Cells W a (zVc zs)) (hb : ∀ b off s, a = some ⟨b, off, s⟩ → zs ≠ [] → b < n0) (h0 : J [] W) :
    CallsIn Fence.wide 5 Tryz.prog 169 #[.func (.yield l) #[] #[], .pointer (some ⟨Bs, 0, none⟩)] W fun e W' => (∃ v, e = .returned v) ∧ ((∃ ys, ys = zs ∧ J ys W') ∨ (∃ pre, True ∧ Jx pre W')) := by
  obtain ⟨L, hL⟩ : ∃ L, zs.length = L := ⟨_, rfl⟩
  rw [hL] at hBs hreach
  refine callsIn_of_wp Tryz.func169 rfl trivial ?_ rfl
  simp only [Tryz.ntmps169, List.size_toArray, List.length_cons, List.length_nil, Nat.reduceAdd, Nat.reduceSub, Array.replicate_succ, Array.replicate_zero, List.push_toArray, List.append_toArray, List.nil_append, List.cons_append]
  gi_wp2
  gi_loopw [7] (fun i wr => ∃ k : Nat, k ≤ L ∧ i = .int .i64 k ∧ J (zs.take k) wr ∧ Below n0 W wr) (fun i _ => L - (intOf i).toNat)
  case atStart => exact ⟨0, Nat.zero_le _, rfl, h0, Below.refl _ _⟩
  case round =>
    obtain ⟨k, hk, rfl, hJs, hnx⟩ := hrel
    by_cases hlt : k < L
    · have hkz : k < zs.length := by rw [hL]; exact hlt
      obtain ⟨b, off, rfl, hbl, hcx⟩ := hc.at_ (show (zVc zs)[k]? = some (.int .i64 zs[k]) by unfold zVc; rw [List.getElem?_map, List.getElem?_eq_getElem hkz]; rfl)
      have hbn : b < n0 := hb b off none rfl (fun e => by rw [e] at hkz; simp at hkz)
      have hcx' : wr.cell? ⟨b, off + k, none⟩ = some (.int .i64 zs[k]) := (hnx.cell (p := ⟨b, off + k, none⟩) hbn).trans hcx
      obtain ⟨x, hx⟩ : ∃ x, zs[k] = x := ⟨_, rfl⟩
      have hux := upto_succ zs hkz
      rw [hx] at hcx' hux
      obtain ⟨fn, tmps, assign, body, hy, hR⟩ := hY _ x wr hJs (by rw [List.length_take]; omega)
      clear hx hcx hBs hL
      gi_wp2
      refine hR.mono ?_
      rintro e W3 (⟨rfl, hJ3, hk3⟩ | ⟨rfl, hJx3⟩)
      · gi_wp2
        go_roundw
        case rel => exact ⟨k + 1, by omega, by simp, by rw [hux]; exact hJ3, hnx.trans hk3⟩
        case measure => simp [intOf]; omega
      · gi_wp2
        refine bodyPost_ret (results_none rfl _ _ _) rfl ?_
        exact ⟨⟨_, rfl⟩, .inr ⟨_, trivial, hJx3⟩⟩
    · obtain rfl : k = L := by omega
      have ht : zs.take k = zs := List.take_of_length_le (by omega)
      rw [ht] at hJs
      clear hBs ht
      gi_wp2
      go_end0
      exact ⟨⟨_, rfl⟩, .inl ⟨_, rfl, hJs⟩⟩
theorem values_ok (a : Option Addr) (n cap : Nat) (w : World) : Calls Tryz.prog 154 #[.slice a n cap] w fun e w' => e = .returned (.func (.func 169) #[] #[.pointer (some ⟨w.heap.size, 0, none⟩)]) ∧ w' = w.alloc (.cells #[.slice a n cap] 45) := by
  have hmf : ∀ (fn : Fn) (first cap : Array Value) (w : World), (Instr.makeFunc fn first cap).run Tryz.prog w = .ok (.func fn first cap) w := fun _ _ _ _ => rfl
  go_enter Tryz.func154, Tryz.ntmps154
  go_wp2_with fail
  go_ret
  exact ⟨rfl, rfl⟩
theorem call_vals (args : Array Value) (w : World) : (callFunc 169 args).run Tryz.prog w = .ok (.enter 169 args) w := enters_of Tryz.func169 (by kernel_rfl) rfl args w
theorem keeps_below {n0 : Nat} {w : World} (hn : n0 ≤ w.heap.size) (W W' : World) (_ : KeepsOthers W W') (h : Below w.heap.size W W') : Below n0 W W' := h.mono hn
/-- **slices.Sorted(slices.Values(vars))**: behind slices.Values -/
theorem sorted_vals (w : World) (a : Option Addr) (cap : Nat) (zs : List Int) (hl : zs.length ≤ 1048576) (hc : Cells w a (zVc zs)) :
    Calls Tryz.prog 153 #[.func (.func 169) #[] #[.pointer (some ⟨w.heap.size, 0, none⟩)]] (w.alloc (.cells #[.slice a zs.length cap] 45)) fun e W' =>
      ∃ v, e = .returned v ∧ W'.ownsRow w.heap.size 3 1 v zs.length (zVc (zs.mergeSort fun x y => decide (x ≤ y))) ∧ Below w.heap.size w W' := by
  obtain ⟨w1, hw1⟩ : ∃ w1, w.alloc (.cells #[.slice a zs.length cap] 45) = w1 := ⟨_, rfl⟩
  have hb1 : Below w.heap.size w w1 := by rw [← hw1]; exact (Below.refl _ _).alloc (Nat.le_refl _) _
  have hcell : w1.cell? ⟨w.heap.size, 0, none⟩ = some (.slice a zs.length cap) := by rw [← hw1]; exact World.cell?_alloc_new ..
  have hlt : w.heap.size < w1.heap.size := by rw [← hw1]; simp
  rw [hw1]
  have hc1 := hc.below hb1
  refine (sorted_of (Kp := Below w.heap.size) (S := fun ss => ss = zs) (Sp := fun _ => True) (N := zs.length) w1 _ _ call_vals ?_ belowK_t (belowK_b (Nat.le_of_lt hlt)) (keeps_below (Nat.le_of_lt hlt)) hl).mono ?_
  · intro l J Jx W hW _ _ hY h0
    refine (values1_in l w.heap.size w.heap.size a cap zs hl J Jx hY W ((hW.cell (p := ⟨w.heap.size, 0, none⟩) hlt).trans hcell) (hc1.below hW) (fun b off s e hne => ?_) h0).mono ?_
    · obtain ⟨b', off', e', hb', _⟩ := hc (by unfold zVc; simpa using hne)
      rw [e] at e'; injection e' with e'; injection e' with e1 _ _; rw [e1]; exact hb'
    · rintro e W' ⟨he, ⟨ys, rfl, hj⟩ | ⟨pre, hp, hj⟩⟩
      · exact ⟨he, .inl ⟨ys, ⟨rfl, hl⟩, hj⟩⟩
      · exact ⟨he, .inr ⟨pre, hp, hj⟩⟩
  · rintro e W' ⟨v, ss, rfl, rfl, hrow, hb⟩
    exact ⟨v, rfl, own_base hrow (Nat.le_of_lt hlt), hb1.trans (hb.mono (Nat.le_of_lt hlt))⟩
/-! ### slices.Sorted(maps.Keys(m)) -/
theorem keys_ok (b : Nat) (w : World) : Calls Tryz.prog 171 #[.map (some b)] w fun e w' => e = .returned (.func (.func 180) #[] #[.pointer (some ⟨w.heap.size, 0, none⟩)]) ∧ w' = w.alloc (.cells #[.map (some b)] 106) :=
  callsIn_wide.1 (AnyZI.keys_in Tryz.keysA Fence.wide 5 trivial rfl (some b) w)
theorem call_keys (args : Array Value) (w : World) : (callFunc 180 args).run Tryz.prog w = .ok (.enter 180 args) w := enters_of Tryz.func180 (by kernel_rfl) rfl args w
theorem sorted_keys {H : Type} {R : Value → Option (DataW H × List MemPlace)} {D0 : DataW H} (w : World) (b nn : Nat) (hown : w.ownsMap Tryz.prog 3 R b nn D0) (hl : Maps.size D0 ≤ 1048576) :
    Calls Tryz.prog 153 #[.func (.func 180) #[] #[.pointer (some ⟨w.heap.size, 0, none⟩)]] (w.alloc (.cells #[.map (some b)] 106)) fun e W' =>
      ∃ (v : Value) (ss : List Int), e = .returned v ∧ (ss.Perm (intKeys D0) ∧ ∀ x, x ∈ ss ↔ Maps.has D0 (.int .i64 x) = true) ∧ W'.ownsRow w.heap.size 3 1 v ss.length (zVc (ss.mergeSort fun x y => decide (x ≤ y))) ∧ Below w.heap.size w W' := by
  obtain ⟨w1, hw1⟩ : ∃ w1, w.alloc (.cells #[.map (some b)] 106) = w1 := ⟨_, rfl⟩
  have hb1 : Below w.heap.size w w1 := by rw [← hw1]; exact (Below.refl _ _).alloc (Nat.le_refl _) _
  have hcell : w1.cell? ⟨w.heap.size, 0, none⟩ = some (.map (some b)) := by rw [← hw1]; exact World.cell?_alloc_new ..
  have hlt : w.heap.size < w1.heap.size := by rw [← hw1]; simp
  rw [hw1]
  have hown1 : w1.ownsMap Tryz.prog 3 R b nn D0 := by
    have hbl := hown.lt
    obtain ⟨es, clock, hb, Ft, hs, hD⟩ := hown
    exact ⟨es, clock, (hb1.block b hbl).trans hb, Ft, hs, hD⟩
  have hst := AnyZI.keys_stops (ρ := Tryz.keysA_ren) { Tryz.keysA with } Fence.wide 5 trivial rfl (by decide) w.heap.size b nn D0 w1 hlt hcell hown1
  refine (sorted_of (Kp := KeepsWalks) (S := fun ss => ss.Perm (intKeys D0) ∧ ∀ x, x ∈ ss ↔ Maps.has D0 (.int .i64 x) = true) (Sp := fun _ => True) (N := Maps.size D0) w1 _ _ call_keys ?_ walksK_t walksK_b (fun _ _ h _ => h.walks) hl).mono ?_
  · have hle : (intKeys D0).length ≤ Maps.size D0 := by cases D0 <;> simp [intKeys, Maps.size]
    intro l J Jx W hW hJ hJx hY h0
    refine (hst l J Jx W hW hJ hJx hY h0).mono ?_
    rintro e W' ⟨he, ⟨ys, hS, hj⟩ | ⟨pre, _, hj⟩⟩
    · exact ⟨he, .inl ⟨ys, ⟨hS, by rw [hS.1.length_eq]; omega⟩, hj⟩⟩
    · exact ⟨he, .inr ⟨pre, trivial, hj⟩⟩
  · rintro e W' ⟨v, ss, rfl, hS, hrow, hb⟩
    exact ⟨v, ss, rfl, hS, own_base hrow (Nat.le_of_lt hlt), hb1.trans (hb.mono (Nat.le_of_lt hlt))⟩
/-- a rising list of a map's keys is what is sorted out of them -/
theorem keys_sorted {H : Type} {R : Value → Option (DataW H × List MemPlace)} {D0 : DataW H} {w : World} {b nn : Nat} (hown : w.ownsMap Tryz.prog 3 R b nn D0) {ss L : List Int} (hp : ss.Perm (intKeys D0)) (hm : ∀ x, x ∈ L ↔ Maps.has D0 (.int .i64 x) = true) (hr : L.Pairwise (· < ·)) :
    ss.mergeSort (fun x y => decide (x ≤ y)) = L := by
  have hc : CollectedI D0 (fun _ => false) L := ⟨hr.imp fun h => by omega, fun x => by rw [hm x]; simp⟩
  have hL : L.Perm (intKeys D0) := hc.perm hown (Maps.int_keyed Tryz.underlying3) Tryz.underlying3 fun _ => rfl
  have h := mergeSort_of_perm_i (hp.trans hL.symm)
  refine Eq.trans h (List.mergeSort_of_pairwise (hr.imp fun h => by simp; omega))
end Go.Proofs.YtobhjkfkdkiigaaGreatDoor

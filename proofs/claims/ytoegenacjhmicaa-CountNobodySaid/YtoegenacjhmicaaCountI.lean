/- Layer 6: the contract of count.First. -/
import Derived.Test.YtoegenacjhmicaaCountB
import Derived.Test.YtoegenacjhmicaaCount0
namespace Go.Proofs.Ytoegenacjhmicaa
open Go.RowKit HP NP
theorem bool_info6 : (Try.prog.info? 4).map (fun i => (i.zero, i.size, i.bytes)) = some (some (.bool false), 1, 1) := by kernel_rfl
/-- a row of truth values -/
def bF (n : Nat) (f : Nat → Bool) : List Value := (List.range n).map fun i => Value.bool (f i)
theorem bF_len (n : Nat) (f : Nat → Bool) : (bF n f).length = n := by simp [bF]
theorem bF_at {n : Nat} (f : Nat → Bool) {i : Nat} (h : i < n) : (bF n f)[i]? = some (.bool (f i)) := by
  unfold bF
  rw [List.getElem?_map, List.getElem?_range h]; rfl
theorem bF_set {n : Nat} (f : Nat → Bool) (v : Nat) (b : Bool) : (bF n f).toArray.setIfInBounds v (.bool b) = (bF n fun j => if j = v then b else f j).toArray := by
  rw [List.setIfInBounds_toArray]
  congr 1
  refine List.ext_getElem? fun j => ?_
  rw [List.getElem?_set]
  by_cases hj : j < n
  · rw [bF_at _ hj, bF_at _ hj, bF_len]
    by_cases e : v = j
    · subst e; rw [if_pos rfl, if_pos hj, if_pos rfl]
    · rw [if_neg e, if_neg (fun h => e h.symm)]
  · rw [List.getElem?_eq_none (l := bF n f) (by rw [bF_len]; omega), List.getElem?_eq_none (l := bF n _) (by rw [bF_len]; omega), bF_len]
    split
    · rw [if_neg (by omega)]
    · rfl
theorem bF_congr {n : Nat} {f g : Nat → Bool} (h : ∀ i, i < n → f i = g i) : bF n f = bF n g := by
  unfold bF
  exact List.map_congr_left fun i hi => by rw [h i (List.mem_range.1 hi)]
theorem made_false (n : Nat) : madeCells (Value.bool false).cells (n * 1) = (bF n fun _ => false).toArray := by
  apply Array.ext_getElem?
  intro j
  show (madeCells #[Value.bool false] (n * 1))[j]? = _
  unfold madeCells bF
  by_cases hj : j < n
  · simp [hj, Nat.mod_one]
  · rw [Array.getElem?_eq_none (by simp; omega), Array.getElem?_eq_none (by simp; omega)]
def firE (S : NS) (k : Int) : Int := if isK S.l k = false ∨ k = 0 then 3 else 0
def FirPost (S : NS) (k : Int) (w : World) (e : Ending) (w' : World) : Prop :=
  Below w.heap.size w w' ∧ ((firE S k = 3 ∧ e = .returned (.tuple #[.slice none 0 0, .int .i64 3])) ∨
    (firE S k = 0 ∧ ∃ y, e = .returned (.tuple #[y, .int .i64 0]) ∧ w'.ownsRow w.heap.size 4 1 y S.vars (bF S.vars (firB S.l k.toNat))))
/-- what the row holds on the way -/
structure FirI (S : NS) (k0 k : Nat) (f : Nat → Bool) : Prop where
  is : isB S.l k = true
  ne : k ≠ 0
  old : ∀ j, j < (nd S.l k).v → f j = firB S.l k0 j
  new : ∀ j, (nd S.l k).v ≤ j → f j = false
  on : ∀ j, (nd S.l k).v ≤ j → firB S.l k0 j = firB S.l k j
theorem FirI.start {S : NS} (h : Wf S) {k : Nat} (hk : isB S.l k = true) (h0 : k ≠ 0) : FirI S k k (fun _ => false) :=
  ⟨hk, h0, fun j hj => (fir_low h j k hk h0 hj).symm, fun _ _ => rfl, fun _ _ => rfl⟩
theorem FirI.step {S : NS} (h : Wf S) {k0 k : Nat} {f : Nat → Bool} (hi : FirI S k0 k f) (h2 : 2 ≤ k) {b : Bool} (hb : b = decide ((nd S.l k).low = 0)) : FirI S k0 (fnx S.l k) (fun j => if j = (nd S.l k).v then b else f j) := by
  obtain ⟨a, b1, c⟩ := fnx_ok h h2 hi.is
  refine ⟨a, c, fun j hj => ?_, fun j hj => ?_, fun j hj => ?_⟩
  · show (if j = (nd S.l k).v then b else f j) = _
    by_cases e : j = (nd S.l k).v
    · rw [if_pos e, hi.on j (by omega), firB_step h j h2 hi.is, if_pos e.symm]; exact hb
    · rw [if_neg e]
      by_cases hl : j < (nd S.l k).v
      · exact hi.old j hl
      · rw [hi.new j (by omega), hi.on j (by omega), firB_step h j h2 hi.is, if_neg (fun h => e h.symm)]
        exact (fir_low h j _ a c hj).symm
  · show (if j = (nd S.l k).v then b else f j) = false
    rw [if_neg (by omega)]; exact hi.new j (by omega)
  · rw [hi.on j (by omega), firB_step h j h2 hi.is, if_neg (by omega)]
theorem FirI.stop {S : NS} (h : Wf S) {k0 : Nat} {f : Nat → Bool} (hi : FirI S k0 1 f) : bF S.vars f = bF S.vars (firB S.l k0) := bF_congr fun j hj => hi.old j (by rw [h.v1]; exact hj)
theorem fnx_low {S : NS} {k lo hi : Nat} (hl : (nd S.l k).low = lo) (hh : (nd S.l k).high = hi) : fnx S.l k = if lo = 0 then hi else lo := by unfold fnx; rw [hl, hh]
set_option maxRecDepth 100000 in
set_option maxHeartbeats 6400000 in
theorem first_ok (w : World) (B p : Nat) (S : NS) (h : Sto w B p S) (k : Int) : Calls Try.prog 27 #[.pointer (some ⟨p, 0, none⟩), .int .i64 k] w (FirPost S k w) := by
  have HS1 := Lib.hid h
  have HMY := Lib.hid (cmay6_ok w B p S h k)
  clear h
  cases hk : isK S.l k with
  | false =>
    have hf : findE S k = 3 := by unfold findE; rw [hk]; rfl
    rw [hf] at HMY
    have HE : Hid (firE S k = 3) := Lib.hid (by unfold firE; rw [if_pos (.inl hk)])
    clear hf hk
    go_enter Try.func27, Try.ntmps27
    go_wp2_with fail
    refine HMY.out.mono ?_
    rintro e w2 ⟨rfl, nq, hw2⟩
    have HB2 : Hid (Below w.heap.size w w2) := Lib.hid (by rw [hw2]; exact bdN' _ _)
    clear hw2
    go_wp2_with fail
    go_ret2
    exact ⟨HB2.out, .inl ⟨HE.out, rfl⟩⟩
  | true =>
    have hf : findE S k = 0 := by unfold findE; rw [hk]; rfl
    rw [hf] at HMY
    obtain ⟨k0, rfl, hkb⟩ := isK_out hk
    have HK := Lib.hid hk; have HKB := Lib.hid hkb
    clear hf hk hkb
    by_cases h0 : k0 = 0
    · have d1 : ((k0 : Int) == 0) = true := by rw [beq_iff_eq]; omega
      have HE : Hid (firE S (k0 : Int) = 3) := Lib.hid (by unfold firE; rw [if_pos (.inr (by omega))])
      clear h0
      go_enter Try.func27, Try.ntmps27
      go_wp2_with fail
      refine HMY.out.mono ?_
      rintro e w2 ⟨rfl, nq, hw2⟩
      have HB2 : Hid (Below w.heap.size w w2) := Lib.hid (by rw [hw2]; exact bdN' _ _)
      clear hw2
      go_wp2_with fail
      go_ret2
      exact ⟨HB2.out, .inl ⟨HE.out, rfl⟩⟩
    · have d1 : ((k0 : Int) == 0) = false := by rw [beq_eq_false_iff_ne]; omega
      have HE : Hid (firE S (k0 : Int) = 0) := Lib.hid (by unfold firE; rw [if_neg (by rw [HK.out]; simp; omega)])
      obtain ⟨V, hV⟩ : ∃ V, S.vars = V := ⟨_, rfl⟩
      have hV2 : V ≤ 256 := by rw [← hV]; exact HS1.out.wf.v256
      have HV := Lib.hid hV; have HV2 := Lib.hid hV2
      obtain ⟨j0, hj0, yz0, yz1, yz2⟩ := info_parts bool_info6
      have hmk := run_make_n (P := Try.prog) 69 4 j0 (.bool false) 1 1 Try.underlying69 hj0 yz0 yz1 yz2 .i64 .i64 V V (Nat.le_refl _) (by omega) (by omega)
      rw [made_false] at hmk
      have HI0 := Lib.hid (FirI.start HS1.out.wf HKB.out h0)
      clear hV h0 yz0 yz1 yz2 hj0
      go_enter Try.func27, Try.ntmps27
      go_wp2_with fail
      refine HMY.out.mono ?_
      rintro e w2 ⟨rfl, nq, hw2⟩
      have hb2 : Below w.heap.size w w2 := by rw [hw2]; exact bdN' _ _
      have HB2 := Lib.hid hb2
      have HS2 := Lib.hid (HS1.out.below hb2)
      clear hw2 hb2
      have HVS := Lib.hid (nvars_ok w2 B p S HS2.out)
      rw [HV.out] at HVS
      go_wp2_with fail
      refine HVS.out.mono ?_
      rintro e w3 ⟨rfl, rfl⟩
      go_upto_region 7 with (fail)
      obtain ⟨ob, hob⟩ : ∃ ob, ob = w2.heap.size := ⟨_, rfl⟩
      obtain ⟨w3, hw3⟩ : ∃ w3, w3 = w2.alloc (.cells (bF V fun _ => false).toArray 4) := ⟨_, rfl⟩
      rw [← hob]
      rw [← hw3]
      have hb3 : Below w2.heap.size w2 w3 := by rw [hw3]; exact (Below.refl _ _).alloc (Nat.le_refl _) _
      have k3 : Blk w3 ob 4 (bF V fun _ => false).toArray := by rw [hw3, hob]; exact Blk.new_ _ _ _
      have HS3 := Lib.hid (HS2.out.below hb3); have HB3 := Lib.hid (HB2.out.trans (hb3.mono HB2.out.size)); have HK3 := Lib.hid k3
      have HOB : Hid (w2.heap.size ≤ ob) := Lib.hid (by omega)
      have HB23 := Lib.hid hb3
      clear hob hw3 hb3 k3 hmk
      go_loopg [1] (V + 1 - (nd S.l k0).v) (fun mm x wr => ∃ (kc : Nat) (f : Nat → Bool), mm + (nd S.l kc).v = V + 1 ∧ x = .int .i64 (kc : Int) ∧ Only (fun b => b = ob) w3 wr ∧ Blk wr ob 4 (bF V f).toArray ∧ FirI S k0 kc f)
      case atStart => exact ⟨k0, _, by have := HS1.out.wf.vle HKB.out; have := HV.out; omega, rfl, Only.refl _ _, HK3.out, HI0.out⟩
      case round =>
        obtain ⟨kc, f, hm2, rfl, ho, hbk, hfi⟩ := hrel
        have HMM := Lib.hid hm2; have HO := Lib.hid ho; have HBK := Lib.hid hbk; have HFI := Lib.hid hfi
        have hbr : Below w2.heap.size w3 wr := Only.below ho (fun j hj _ hf => by have := HOB.out; omega) HB23.out.size
        have HBR := Lib.hid (HB23.out.trans hbr)
        have hne := hfi.ne
        clear hm2 ho hbk hfi hbr
        by_cases hk2 : 2 ≤ kc
        · have d2 : decide (1 < (kc : Int)) = true := decide_eq_true (by omega)
          have HA := Lib.hid (nask_ok wr B p S (HS2.out.below HBR.out) (kc : Int))
          rw [askV_yes (by rw [isK_nat]; exact HFI.out.is), Int.toNat_natCast] at HA
          obtain ⟨hv0, _⟩ := HS1.out.wf.kid kc hk2 HFI.out.is
          obtain ⟨v, hv⟩ : ∃ v, (nd S.l kc).v = v := ⟨_, rfl⟩
          obtain ⟨lo, hl⟩ : ∃ lo, (nd S.l kc).low = lo := ⟨_, rfl⟩
          obtain ⟨hi, hh⟩ : ∃ hi, (nd S.l kc).high = hi := ⟨_, rfl⟩
          rw [hv, hl, hh] at HA
          rw [hv] at hv0
          have HFN := Lib.hid (fnx_low hl hh)
          have HST : Hid (∀ b, b = decide (lo = 0) → FirI S k0 (fnx S.l kc) (fun j => if j = v then b else f j)) := Lib.hid (fun b hb => by
            have := HFI.out.step HS1.out.wf hk2 (b := b) (by rw [hl]; exact hb)
            rw [hv] at this
            exact this)
          have HVN : Hid (v < (nd S.l (fnx S.l kc)).v ∧ (nd S.l (fnx S.l kc)).v ≤ V) := Lib.hid (by
            obtain ⟨a, b, c⟩ := fnx_ok HS1.out.wf hk2 HFI.out.is
            rw [hv] at b
            refine ⟨b, ?_⟩
            rw [← HV.out]; exact HS1.out.wf.vle a)
          have HM2 : Hid (_ + v = V + 1) := Lib.hid (by have := HMM.out; rw [hv] at this; exact this)
          have b1 : (0 : Int) ≤ (v : Int) := by omega
          have hvV : v < V := by rw [← HV.out]; exact hv0
          have b2 : (v : Int) < (V : Int) := by omega
          clear hv0 hv hl hh HMM
          go_wp2_with fail
          refine HA.out.mono ?_
          rintro e w4 ⟨rfl, nq, hw4⟩
          have hb4 : Below wr.heap.size wr w4 := by rw [hw4]; exact bdN' _ _
          have hbk4 := HBK.out.below hb4 HBK.out.lt
          have ho4 : Only (fun b => b = ob) w3 w4 := Only.trans HO.out (Only.of_below (F := fun b => b = ob) hb4 fun k h1 h2 => by omega) fun _ _ hi => hi
          have y1 : w4.cell? ⟨ob, v, none⟩ = some (.bool (f v)) := (hbk4.cell v).trans (by rw [List.getElem?_toArray]; exact bF_at f hvV)
          have y2 := hbk4.frozen v
          have y3 := hbk4.lt
          by_cases hlo : lo = 0
          · have d3 : ((lo : Int) == 0) = true := by rw [beq_iff_eq]; omega
            have HN : Hid (Blk (w4.setCell ⟨ob, v, none⟩ (.bool true)) ob 4 (bF V fun j => if j = v then true else f j).toArray) := Lib.hid (by rw [← bF_set]; exact hbk4.set_ v _)
            have HO4 := Lib.hid (ho4.setCell (p := ⟨ob, v, none⟩) (fun _ => rfl) (.bool true))
            have HF2 : Hid (FirI S k0 hi (fun j => if j = v then true else f j)) := Lib.hid (by
              have := HST.out true (by rw [hlo]; rfl)
              rw [HFN.out, if_pos hlo] at this
              exact this)
            have HVN2 : Hid (v < (nd S.l hi).v ∧ (nd S.l hi).v ≤ V) := Lib.hid (by have := HVN.out; rw [HFN.out, if_pos hlo] at this; exact this)
            clear hw4 hb4 hbk4 ho4 hlo
            go_wp2_with fail
            go_roundg (V + 1 - (nd S.l hi).v)
            case measure => have := HM2.out; have := HVN2.out; omega
            case rel => exact ⟨hi, _, by have := HVN2.out; omega, rfl, HO4.out, HN.out, HF2.out⟩
          · have d3 : ((lo : Int) == 0) = false := by rw [beq_eq_false_iff_ne]; omega
            have HN : Hid (Blk (w4.setCell ⟨ob, v, none⟩ (.bool false)) ob 4 (bF V fun j => if j = v then false else f j).toArray) := Lib.hid (by rw [← bF_set]; exact hbk4.set_ v _)
            have HO4 := Lib.hid (ho4.setCell (p := ⟨ob, v, none⟩) (fun _ => rfl) (.bool false))
            have HF2 : Hid (FirI S k0 lo (fun j => if j = v then false else f j)) := Lib.hid (by
              have := HST.out false (by rw [decide_eq_false hlo])
              rw [HFN.out, if_neg hlo] at this
              exact this)
            have HVN2 : Hid (v < (nd S.l lo).v ∧ (nd S.l lo).v ≤ V) := Lib.hid (by have := HVN.out; rw [HFN.out, if_neg hlo] at this; exact this)
            clear hw4 hb4 hbk4 ho4 hlo
            go_wp2_with fail
            go_roundg (V + 1 - (nd S.l lo).v)
            case measure => have := HM2.out; have := HVN2.out; omega
            case rel => exact ⟨lo, _, by have := HVN2.out; omega, rfl, HO4.out, HN.out, HF2.out⟩
        · have hk1 : kc = 1 := by omega
          subst hk1
          have d2 : decide (1 < ((1 : Nat) : Int)) = false := by decide
          go_wp2_with fail
          go_ret2
          have hst := HFI.out.stop HS1.out.wf
          refine ⟨HB2.out.trans (HBR.out.mono HB2.out.size), .inr ⟨HE.out, _, rfl, ?_⟩⟩
          have h := HBK.out.own (size := 1) (n := V) (cap := V) (show w.heap.size ≤ ob by have := HB2.out.size; have := HOB.out; omega) (Nat.le_refl _) (by have := HV2.out; unfold maxLen; omega) (by simp [bF_len])
          rw [Int.toNat_natCast, HV.out]
          rw [HV.out] at hst
          rw [← hst]
          simpa [bF_len, List.take_of_length_le] using h
end Go.Proofs.Ytoegenacjhmicaa

/- The contracts of bits.Put and osierref01.Put: a new slice that reads as the number's bits, or nil and ErrArg; nothing that was there has turned. -/
import Derived.Test.YtfijnfokfkpbpaaSame
namespace Go.Proofs.Ytfijnfokfkpbpaa
open Go.RowKit

theorem bool_info : (Try.prog.info? 4).map (fun i => (i.zero, i.size, i.bytes)) = some (some (.bool false), 1, 1) := by kernel_rfl

/-- what Put leaves -/
def PutPost (l : List Bool) (er : Int) (w : World) (e : Ending) (w' : World) : Prop :=
  ∃ a cap, e = .returned (.tuple #[.slice a l.length cap, .int .i64 er]) ∧ l.length ≤ maxLen ∧ Cells w' a (l.map Value.bool) ∧ Below w.heap.size w w'

theorem putR_no (n wd : Int) (h : wd < 0 ∨ 62 < wd ∨ n < 0 ∨ ((2 ^ wd.toNat : Nat) : Int) ≤ n) : putR n wd = [] ∧ putE n wd = 1 := by
  have e : putE n wd = 1 := by unfold putE; rw [if_pos h]
  exact ⟨by unfold putR; rw [e]; rfl, e⟩
theorem putR_yes (n wd : Nat) (h2 : wd ≤ 62) (h4 : n < 2 ^ wd) : putR n wd = putL n wd ∧ putE n wd = 0 := by
  have e : putE n wd = 0 := by unfold putE; rw [if_neg (by simp only [Int.toNat_natCast]; omega)]
  exact ⟨by unfold putR; rw [e]; rfl, e⟩

theorem shr_zero (n wd : Nat) (h4 : n < 2 ^ wd) : (n : Int) / 2 ^ wd = 0 := by
  rw [show (2 : Int) ^ wd = ((2 ^ wd : Nat) : Int) by simp, ← Int.natCast_ediv, Nat.div_eq_of_lt h4]; rfl
theorem shr_pos (n wd : Nat) (h4 : 2 ^ wd ≤ n) : 0 < (n : Int) / 2 ^ wd := by
  rw [show (2 : Int) ^ wd = ((2 ^ wd : Nat) : Int) by simp, ← Int.natCast_ediv]
  have := Nat.div_pos h4 (Nat.two_pow_pos wd)
  omega

set_option maxHeartbeats 400000 in
theorem put_no (n wd : Int) (w : World) (h : wd < 0 ∨ 62 < wd ∨ n < 0 ∨ ((2 ^ wd.toNat : Nat) : Int) ≤ n) :
    Calls Try.prog 19 #[.int .i64 n, .int .i64 wd] w (PutPost (putR n wd) (putE n wd) w) := by
  obtain ⟨e1, e2⟩ := putR_no n wd h
  rw [e1, e2]
  clear e1 e2
  by_cases h1 : wd < 0
  · clear h
    go_enter Try.func19, Try.ntmps19
    go_wp2
    go_ret2
    exact ⟨none, 0, rfl, by simp, Cells.nil _ _, Below.refl _ _⟩
  · by_cases h2 : 62 < wd
    · clear h
      go_enter Try.func19, Try.ntmps19
      go_wp2
      go_ret2
      exact ⟨none, 0, rfl, by simp, Cells.nil _ _, Below.refl _ _⟩
    · by_cases h3 : n < 0
      · clear h
        go_enter Try.func19, Try.ntmps19
        go_wp2
        go_ret2
        exact ⟨none, 0, rfl, by simp, Cells.nil _ _, Below.refl _ _⟩
      · obtain ⟨m, rfl⟩ := Int.eq_ofNat_of_zero_le (show 0 ≤ n by omega)
        obtain ⟨k, rfl⟩ := Int.eq_ofNat_of_zero_le (show 0 ≤ wd by omega)
        have h4 := shr_pos m k (by simp only [Int.toNat_natCast] at h; omega)
        clear h
        go_enter Try.func19, Try.ntmps19
        go_wp2
        go_ret2
        exact ⟨none, 0, rfl, by simp, Cells.nil _ _, Below.refl _ _⟩

/-- the block that Put fills: the first k cells are the number's bits -/
def Filling (w : World) (g t m wd k : Nat) : Prop := ∃ cs : Array Value, Blk w g t cs ∧ cs.size = wd ∧ ∀ i, i < k → cs[i]? = some (.bool (m.testBit i))
theorem Filling.next {w : World} {g t m wd k : Nat} (h : Filling w g t m wd k) (hk : k < wd) : Filling (w.setCell ⟨g, k, none⟩ (.bool (m.testBit k))) g t m wd (k + 1) := by
  obtain ⟨cs, hb, hs, hc⟩ := h
  refine ⟨_, hb.set_ k _, by simpa using hs, fun i hi => ?_⟩
  rw [Array.getElem?_setIfInBounds]
  by_cases e : k = i
  · subst e; rw [if_pos rfl, if_pos (by omega)]
  · rw [if_neg e]; exact hc i (by omega)
theorem Filling.cells {w : World} {g t m wd : Nat} (h : Filling w g t m wd wd) : Cells w (some ⟨g, 0, none⟩) ((putL m wd).map Value.bool) := by
  obtain ⟨cs, hb, hs, hc⟩ := h
  refine fun _ => ⟨g, 0, rfl, hb.lt, fun i v hv => ?_⟩
  rw [Nat.zero_add, hb.cell]
  have hi : i < wd := by
    have := (List.getElem?_eq_some_iff.1 hv).1
    rw [List.length_map, putL_len] at this; exact this
  rw [List.getElem?_map, putL_at m wd i hi] at hv
  injection hv with hv
  rw [hc i hi, ← hv]
theorem Filling.at_ {w : World} {g t m wd k : Nat} (h : Filling w g t m wd k) (j : Nat) (hj : j < wd) : (∃ v, w.cell? ⟨g, j, none⟩ = some v) ∧ w.frozen? ⟨g, j, none⟩ = false := by
  obtain ⟨cs, hb, hs, hc⟩ := h
  exact ⟨⟨cs[j], by rw [hb.cell]; exact Array.getElem?_eq_getElem (by omega)⟩, hb.frozen j⟩

theorem bit_i64 (m k : Nat) (hm : m < 4611686018427387904) (hk : k < 62) : (bits .and .i64 (m : Int) (2 ^ k) != 0) = m.testBit k := by
  have h2 := two_pow_le k 61 (by omega)
  have e2 : (2 : Nat) ^ 61 = 2305843009213693952 := by decide
  have h := and_i64 m (2 ^ k) (by omega) (by omega)
  rw [show ((2 ^ k : Nat) : Int) = (2 : Int) ^ k by simp] at h
  have hd : m / 2 ^ k % 2 * 2 ^ k = m &&& 2 ^ k := (nat_bit k m).symm
  rw [h, ← hd, Nat.testBit_eq_decide_div_mod_eq]
  clear h hd
  have h3 : m / 2 ^ k % 2 = 0 ∨ m / 2 ^ k % 2 = 1 := by omega
  have := Nat.two_pow_pos k
  rcases h3 with h3 | h3
  · rw [h3]; simp
  · rw [h3, Nat.one_mul]; simp; have := two_pow_62 k (by omega); omega

set_option maxHeartbeats 400000 in
theorem put_yes (m k : Nat) (w : World) (h2 : k ≤ 62) (h4 : m < 2 ^ k) :
    Calls Try.prog 19 #[.int .i64 m, .int .i64 k] w (PutPost (putR m k) (putE m k) w) := by
  obtain ⟨e1, e2⟩ := putR_yes m k h2 h4
  rw [e1, e2]
  clear e1 e2
  have hz := shr_zero m k h4
  have hm : m < 4611686018427387904 := by
    have h5 := two_pow_le _ _ h2
    have e5 : (2 : Nat) ^ 62 = 4611686018427387904 := by decide
    omega
  have H4 := Lib.hid h4; clear h4
  obtain ⟨i0, hi, hz0, hz1, hz2⟩ := info_parts bool_info
  have hmk := fun W : World => run_make_n (P := Try.prog) 31 4 i0 (.bool false) 1 1 Try.underlying31 hi hz0 hz1 hz2 .i64 .i64 k k (Nat.le_refl _) (by omega) (by omega) W
  go_enter Try.func19, Try.ntmps19
  go_wp2
  go_loopw [27] (fun i wr => ∃ j : Nat, j ≤ k ∧ i = .int .i64 j ∧ Filling wr w.heap.size 4 m k j ∧ Below w.heap.size w wr) (fun i _ => k - (intOf i).toNat)
  case atStart => exact ⟨0, Nat.zero_le _, rfl, ⟨_, Blk.new_ _ _ _, by simp [size_madeCells], fun i hi => absurd hi (by omega)⟩, (Below.refl _ _).alloc (Nat.le_refl _) _⟩
  case round =>
    obtain ⟨j, hj, rfl, hf, hbel⟩ := hrel
    by_cases hlt : j < k
    · obtain ⟨⟨v, hv⟩, hfr⟩ := hf.at_ j hlt
      have hbit := bit_i64 m j hm (by omega)
      have hwp := wrap_pow62 j (by omega)
      have hfn := hf.next hlt
      have hbn := hbel.setCell (p := ⟨w.heap.size, j, none⟩) (Nat.le_refl _) (.bool (m.testBit j))
      have HF := Lib.hid hf; clear hf
      go_wp2
      go_roundw
      case rel => exact ⟨j + 1, by omega, by go_num, hfn, hbn⟩
      case measure => simp [intOf]; omega
    · have hkj : k ≤ j := by omega
      have HE : Hid (j = k) := by unfold Hid; omega
      have HF := Lib.hid hf; clear hf
      go_wp2
      go_ret2
      exact ⟨some ⟨w.heap.size, 0, none⟩, k, by rw [putL_len]; rfl, by rw [putL_len]; unfold maxLen; omega, (show Filling _ _ _ _ k k from HE.out ▸ HF.out).cells, hbel⟩

theorem put_ok (n wd : Int) (w : World) : Calls Try.prog 19 #[.int .i64 n, .int .i64 wd] w (PutPost (putR n wd) (putE n wd) w) := by
  by_cases h : wd < 0 ∨ 62 < wd ∨ n < 0 ∨ ((2 ^ wd.toNat : Nat) : Int) ≤ n
  · exact put_no n wd w h
  · obtain ⟨m, rfl⟩ := Int.eq_ofNat_of_zero_le (show 0 ≤ n by omega)
    obtain ⟨k, rfl⟩ := Int.eq_ofNat_of_zero_le (show 0 ≤ wd by omega)
    exact put_yes m k w (by omega) (by simp only [Int.toNat_natCast] at h; omega)

/-! ### osierref01.Put -/
theorem shl_no (n wd : Nat) (h4 : 2 ^ wd ≤ n) : (2 : Int) ^ wd - 1 < n := by
  have e : ((2 ^ wd : Nat) : Int) = (2 : Int) ^ wd := by simp
  omega
theorem shl_yes (n wd : Nat) (h4 : n < 2 ^ wd) : (n : Int) ≤ (2 : Int) ^ wd - 1 := by
  have e : ((2 ^ wd : Nat) : Int) = (2 : Int) ^ wd := by simp
  omega
set_option maxHeartbeats 400000 in
theorem rput_no (n wd : Int) (w : World) (h : wd < 0 ∨ 62 < wd ∨ n < 0 ∨ ((2 ^ wd.toNat : Nat) : Int) ≤ n) :
    Calls Try.prog 20 #[.int .i64 n, .int .i64 wd] w (PutPost (putR n wd) (putE n wd) w) := by
  obtain ⟨e1, e2⟩ := putR_no n wd h
  rw [e1, e2]
  clear e1 e2
  by_cases h1 : wd < 0
  · clear h
    go_enter Try.func20, Try.ntmps20
    go_wp2
    go_ret2
    exact ⟨none, 0, rfl, by simp, Cells.nil _ _, Below.refl _ _⟩
  · by_cases h2 : 62 < wd
    · clear h
      go_enter Try.func20, Try.ntmps20
      go_wp2
      go_ret2
      exact ⟨none, 0, rfl, by simp, Cells.nil _ _, Below.refl _ _⟩
    · by_cases h3 : n < 0
      · clear h
        go_enter Try.func20, Try.ntmps20
        go_wp2
        go_ret2
        exact ⟨none, 0, rfl, by simp, Cells.nil _ _, Below.refl _ _⟩
      · obtain ⟨m, rfl⟩ := Int.eq_ofNat_of_zero_le (show 0 ≤ n by omega)
        obtain ⟨k, rfl⟩ := Int.eq_ofNat_of_zero_le (show 0 ≤ wd by omega)
        have h4 := shl_no m k (by simp only [Int.toNat_natCast] at h; omega)
        have hwp := wrap_pow62 k (by omega)
        have hp := two_pow_62 k (by omega)
        clear h
        go_enter Try.func20, Try.ntmps20
        go_wp2
        go_ret2
        exact ⟨none, 0, rfl, by simp, Cells.nil _ _, Below.refl _ _⟩

theorem bit2_i64 (m j : Nat) (hm : m < 4611686018427387904) : (bits .and .i64 ((m : Int) / 2 ^ j) 1 == 1) = m.testBit j := by
  have hd : ((m / 2 ^ j : Nat) : Int) = (m : Int) / 2 ^ j := by rw [Int.natCast_ediv]; simp
  have hlt : m / 2 ^ j ≤ m := Nat.div_le_self _ _
  have h := and_i64 (m / 2 ^ j) 1 (by omega) (by decide)
  rw [hd] at h
  rw [show ((1 : Nat) : Int) = 1 from rfl] at h
  rw [h, nat_mask1, Nat.testBit_eq_decide_div_mod_eq]
  have h3 : m / 2 ^ j % 2 = 0 ∨ m / 2 ^ j % 2 = 1 := by omega
  rcases h3 with h3 | h3 <;> rw [h3] <;> rfl
set_option maxHeartbeats 400000 in
theorem rput_yes (m k : Nat) (w : World) (h2 : k ≤ 62) (h4 : m < 2 ^ k) :
    Calls Try.prog 20 #[.int .i64 m, .int .i64 k] w (PutPost (putR m k) (putE m k) w) := by
  obtain ⟨e1, e2⟩ := putR_yes m k h2 h4
  rw [e1, e2]
  clear e1 e2
  have hz := shl_yes m k h4
  have hwp := wrap_pow62 k (by omega)
  have hp := two_pow_62 k (by omega)
  have hm : m < 4611686018427387904 := by omega
  have H4 := Lib.hid h4; clear h4
  obtain ⟨i0, hi, hz0, hz1, hz2⟩ := info_parts bool_info
  go_enter Try.func20, Try.ntmps20
  go_wp2
  go_loopw [6, 7] (fun v i wr => ∃ j : Nat, j ≤ k ∧ i = .int .i64 j ∧ wr.ownsRow w.heap.size 4 1 v (putL m j).length ((putL m j).map Value.bool) ∧ Below w.heap.size w wr) (fun _ i _ => k - (intOf i).toNat)
  case atStart => exact ⟨0, Nat.zero_le _, rfl, World.ownsRow_nil _ _ _ _, Below.refl _ _⟩
  case round =>
    obtain ⟨j, hj, rfl, hown, hbel⟩ := hrel
    by_cases hlt : j < k
    · have hbit := bit2_i64 m j hm
      have hsn := putL_snoc m j
      have HSN := Lib.hid hsn; clear hsn
      have hlj := putL_len m j
      have HLJ := Lib.hid hlj; clear hlj
      go_wp2_with (at_builtin; refine wpList_append_own _ rfl (.tmp 30) (.tmp 36) 31 rfl w.heap.size 4 i0 (.bool false) 1 1 Try.underlying31 hi hz0 hz1 hz2 rfl (by decide) _ _ _ rfl (hown.alloc _) ⟨wr.heap.size, 0, none⟩ 1 1 [.bool (m.testBit j)] rfl rfl ?c1 ?c2 ?c3 ?c4 ?c5 ?_)
      case c1 => exact cell_one_new _ _ _
      case c2 => simp [Value.oneCell']
      case c3 => rw [HLJ.out]; unfold maxLen; omega
      case c4 => rw [HLJ.out]; omega
      case c5 => have := hbel.size; simp; omega
      intro v' w1 hown' hg _
      have hb1 : Below w.heap.size w w1 := (hbel.alloc hbel.size _).grown hg (by have := hbel.size; simp; omega) (fun q hq => (hown.lt q hq).1)
      rw [show (putL m j).length + 1 = (putL m (j + 1)).length by rw [putL_len, putL_len], show (putL m j).map Value.bool ++ [Value.bool (m.testBit j)] = (putL m (j + 1)).map Value.bool by rw [HSN.out]; simp] at hown'
      clear hown hg hbel hbit
      go_wp2
      go_roundw
      case rel => exact ⟨j + 1, by omega, by go_num, hown', hb1⟩
      case measure => simp [intOf]; omega
    · have hkj : k ≤ j := by omega
      have HE : Hid (j = k) := by unfold Hid; omega
      obtain ⟨a, cap, rfl, h1, h2', hcl⟩ := Cells.of_own hown
      clear hown
      go_wp2
      go_ret2
      exact ⟨a, cap, by rw [← HE.out]; rfl, by rw [putL_len]; unfold maxLen; omega, by rw [← HE.out]; exact hcl, hbel⟩

theorem rput_ok (n wd : Int) (w : World) : Calls Try.prog 20 #[.int .i64 n, .int .i64 wd] w (PutPost (putR n wd) (putE n wd) w) := by
  by_cases h : wd < 0 ∨ 62 < wd ∨ n < 0 ∨ ((2 ^ wd.toNat : Nat) : Int) ≤ n
  · exact rput_no n wd w h
  · obtain ⟨m, rfl⟩ := Int.eq_ofNat_of_zero_le (show 0 ≤ n by omega)
    obtain ⟨k, rfl⟩ := Int.eq_ofNat_of_zero_le (show 0 ≤ wd by omega)
    exact rput_yes m k w (by omega) (by simp only [Int.toNat_natCast] at h; omega)
end Go.Proofs.Ytfijnfokfkpbpaa

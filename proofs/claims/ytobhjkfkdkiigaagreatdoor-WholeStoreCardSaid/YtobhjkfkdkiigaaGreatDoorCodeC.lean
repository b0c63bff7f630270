/- The contracts of osier/osierref01 at numbers: they return what the plain functions of XArith say, and leave the world as it was. 
 Bits as lists of bools, and the contracts of bits.Put, bits.Get and of osierref01.Put, osierref01.Get, osierref01.SameBits. 
 The contract of osierref01.SameBits: it says whether two lists of bools are one; it draws, and writes nothing. 
 The contracts of bits.Put and osierref01.Put: a new slice that reads as the number's bits, or nil and ErrArg; nothing that was there has turned. 
 Layer 8: the state that a walk with a code keeps (Cd); what a tuple says (tupG); Tuple. -/
import Derived.Test.YtobhjkfkdkiigaaGreatDoorArith
import Derived.Test.YtobhjkfkdkiigaaGreatDoorCodeB
import Derived.Test.YtobhjkfkdkiigaaGreatDoorCountK
namespace Go.Proofs.YtobhjkfkdkiigaaGreatDoor
open Go.RowKit

theorem wrap_pow62 (k : Nat) (h' : k ≤ 62) : wrap64 (2 ^ k) = 2 ^ k := by
  have := two_pow_62 k (by omega)
  exact IntWalk.wrap64_in _ ⟨by omega, by omega⟩
end Go.Proofs.YtobhjkfkdkiigaaGreatDoor

namespace Go.Proofs.YtobhjkfkdkiigaaGreatDoor
open Go.RowKit

/-! ### plain -/
def putLB (n : Nat) (k : Nat) : List Bool := (List.range k).map fun i => n.testBit i
def putE (n wd : Int) : Int := if wd < 0 ∨ 62 < wd ∨ n < 0 ∨ ((2 ^ wd.toNat : Nat) : Int) ≤ n then 1 else 0
def putR (n wd : Int) : List Bool := if putE n wd = 0 then putLB n.toNat wd.toNat else []
def getN : List Bool → Nat
  | [] => 0
  | b :: l => b.toNat + 2 * getN l
theorem getN_snoc (l : List Bool) (b : Bool) : getN (l ++ [b]) = getN l + b.toNat * 2 ^ l.length := by
  induction l with
  | nil => simp [getN]
  | cons c l ih => simp only [List.cons_append, getN, ih, List.length_cons, Nat.pow_succ]; rw [Nat.mul_add, Nat.mul_comm (2 ^ l.length) 2, ← Nat.mul_assoc, ← Nat.mul_assoc, Nat.mul_comm 2 b.toNat]; omega
theorem getN_lt (l : List Bool) : getN l < 2 ^ l.length := by
  induction l with
  | nil => simp [getN]
  | cons c l ih => simp only [getN, List.length_cons, Nat.pow_succ]; have := Bool.toNat_le c; omega
theorem getN_62 (l : List Bool) (h : l.length ≤ 62) : (getN l : Int) ≤ 4611686018427387903 := by
  have h1 := getN_lt l
  have h2 := two_pow_le _ _ h
  have e2 : (2 : Nat) ^ 62 = 4611686018427387904 := by decide
  omega
def getS (l : List Bool) : Int := if l.length ≤ 62 then ((getN l : Nat) : Int) else 0
def getEB (l : List Bool) : Int := if l.length ≤ 62 then 0 else 1
theorem putL_lenB (n k : Nat) : (putLB n k).length = k := by simp [putLB]
theorem putL_atB (n k i : Nat) (h : i < k) : (putLB n k)[i]? = some (n.testBit i) := by simp [putLB, h]
theorem putL_snoc (n k : Nat) : putLB n (k + 1) = putLB n k ++ [n.testBit k] := by simp [putLB, List.range_succ]
theorem bools_at (l : List Bool) (i : Nat) (b : Bool) (h : l[i]? = some b) : (l.map Value.bool)[i]? = some (.bool b) := by simp [h]

theorem ofInt_i64 (a : Nat) (ha : a < 9223372036854775808) : (BitVec.ofInt 64 (a : Int)).toNat = a := by
  rw [BitVec.ofInt_natCast, BitVec.toNat_ofNat]; exact Nat.mod_eq_of_lt (by omega)
theorem and_i64 (a b : Nat) (ha : a < 9223372036854775808) (hb : b < 9223372036854775808) : bits .and .i64 (a : Int) (b : Int) = ((a &&& b : Nat) : Int) := by
  have hx : a &&& b < 2 ^ 63 := Nat.and_lt_two_pow _ (by omega)
  show IntKind.i64.wrap ((BitVec.ofInt 64 (a : Int) &&& BitVec.ofInt 64 (b : Int)).toNat : Int) = _
  rw [BitVec.toNat_and, ofInt_i64 a ha, ofInt_i64 b hb, IntKind.wrap_i64]
  omega
theorem or_i64 (a b : Nat) (ha : a < 9223372036854775808) (hb : b < 9223372036854775808) : bits .or .i64 (a : Int) (b : Int) = ((a ||| b : Nat) : Int) := by
  have hx : a ||| b < 2 ^ 63 := Nat.or_lt_two_pow (by omega) (by omega)
  show IntKind.i64.wrap ((BitVec.ofInt 64 (a : Int) ||| BitVec.ofInt 64 (b : Int)).toNat : Int) = _
  rw [BitVec.toNat_or, ofInt_i64 a ha, ofInt_i64 b hb, IntKind.wrap_i64]
  omega

theorem take_next {α : Type} (l : List α) (k : Nat) (x : α) (h : l[k]? = some x) : l.take (k + 1) = l.take k ++ [x] := by
  rw [List.take_add_one, h]; rfl
theorem take_len {α : Type} (l : List α) (k : Nat) (h : k ≤ l.length) : (l.take k).length = k := by rw [List.length_take]; omega
theorem getN_next (l : List Bool) (k : Nat) (x : Bool) (h : l[k]? = some x) : getN (l.take (k + 1)) = getN (l.take k) + x.toNat * 2 ^ k := by
  have hk : k < l.length := (List.getElem?_eq_some_iff.1 h).1
  rw [take_next l k x h, getN_snoc, take_len l k (by omega)]
theorem getN_take_lt (l : List Bool) (k : Nat) (hk : k ≤ l.length) : getN (l.take k) < 2 ^ k := by
  have := getN_lt (l.take k); rwa [take_len l k hk] at this
theorem or_next (l : List Bool) (k : Nat) (h : l[k]? = some true) (h62 : k < 62) : bits .or .i64 (getN (l.take k) : Int) (2 ^ k) = (getN (l.take (k + 1)) : Int) := by
  have hk : k < l.length := (List.getElem?_eq_some_iff.1 h).1
  have hlt := getN_take_lt l k (by omega)
  have h2 := two_pow_le k 61 (by omega)
  have e2 : (2 : Nat) ^ 61 = 2305843009213693952 := by decide
  have := or_i64 (getN (l.take k)) (2 ^ k) (by omega) (by omega)
  rw [show ((2 ^ k : Nat) : Int) = (2 : Int) ^ k by simp] at this
  have e := Nat.two_pow_add_eq_or_of_lt hlt 1
  rw [Nat.mul_one] at e
  rw [this, getN_next l k true h, Nat.or_comm, ← e, Nat.add_comm]
  simp
theorem add_next (l : List Bool) (k : Nat) (h : l[k]? = some true) : (getN (l.take k) : Int) + 2 ^ k = (getN (l.take (k + 1)) : Int) := by
  rw [getN_next l k true h]; simp
theorem same_next (l : List Bool) (k : Nat) (h : l[k]? = some false) : (getN (l.take (k + 1)) : Int) = (getN (l.take k) : Int) := by
  rw [getN_next l k false h]; simp
theorem getN_take_bd (l : List Bool) (k : Nat) (h : l.length ≤ 62) : (getN (l.take k) : Int) ≤ 4611686018427387903 := getN_62 _ (by rw [List.length_take]; omega)

/-! ### bits.Get -/
end Go.Proofs.YtobhjkfkdkiigaaGreatDoor

namespace Go.Proofs.YtobhjkfkdkiigaaGreatDoor
open Go.RowKit

theorem take_eq_nextB {α : Type} (l m : List α) (k : Nat) (x : α) (h : l.take k = m.take k) (h1 : l[k]? = some x) (h2 : m[k]? = some x) : l.take (k + 1) = m.take (k + 1) := by
  rw [take_next l k x h1, take_next m k x h2, h]
theorem ne_of_atB {α : Type} (l m : List α) (k : Nat) (x y : α) (h1 : l[k]? = some x) (h2 : m[k]? = some y) (h : x ≠ y) : l ≠ m := by
  rintro rfl; rw [h1] at h2; injection h2 with h2; exact h h2

/-- what a comparison leaves: the answer; the world but for draws -/
def TellsB (P : Prop) [Decidable P] (w : World) (e : Ending) (w' : World) : Prop := e = .returned (.bool (decide P)) ∧ ∃ n, w' = w.drewN n

end Go.Proofs.YtobhjkfkdkiigaaGreatDoor

namespace Go.Proofs.YtobhjkfkdkiigaaGreatDoor
open Go.RowKit

theorem bool_info : (Tryz.prog.info? 4).map (fun i => (i.zero, i.size, i.bytes)) = some (some (.bool false), 1, 1) := by kernel_rfl

/-- what Put leaves -/
def PutPostB (l : List Bool) (er : Int) (w : World) (e : Ending) (w' : World) : Prop :=
  ∃ a cap, e = .returned (.tuple #[.slice a l.length cap, .int .i64 er]) ∧ l.length ≤ maxLen ∧ Cells w' a (l.map Value.bool) ∧ (∀ b off s, a = some ⟨b, off, s⟩ → ∃ cs, Blk w' b 4 cs) ∧ Below w.heap.size w w'

theorem putR_no (n wd : Int) (h : wd < 0 ∨ 62 < wd ∨ n < 0 ∨ ((2 ^ wd.toNat : Nat) : Int) ≤ n) : putR n wd = [] ∧ putE n wd = 1 := by
  have e : putE n wd = 1 := by unfold putE; rw [if_pos h]
  exact ⟨by unfold putR; rw [e]; rfl, e⟩
theorem putR_yes (n wd : Nat) (h2 : wd ≤ 62) (h4 : n < 2 ^ wd) : putR n wd = putLB n wd ∧ putE n wd = 0 := by
  have e : putE n wd = 0 := by unfold putE; rw [if_neg (by simp only [Int.toNat_natCast]; omega)]
  exact ⟨by unfold putR; rw [e]; rfl, e⟩

theorem shr_zero (n wd : Nat) (h4 : n < 2 ^ wd) : (n : Int) / 2 ^ wd = 0 := by
  rw [show (2 : Int) ^ wd = ((2 ^ wd : Nat) : Int) by simp, ← Int.natCast_ediv, Nat.div_eq_of_lt h4]; rfl
theorem shr_pos (n wd : Nat) (h4 : 2 ^ wd ≤ n) : 0 < (n : Int) / 2 ^ wd := by
  rw [show (2 : Int) ^ wd = ((2 ^ wd : Nat) : Int) by simp, ← Int.natCast_ediv]
  have := Nat.div_pos h4 (Nat.two_pow_pos wd)
  omega

set_option maxRecDepth 100000 in
set_option maxHeartbeats 400000 in
theorem bput_no (n wd : Int) (w : World) (h : wd < 0 ∨ 62 < wd ∨ n < 0 ∨ ((2 ^ wd.toNat : Nat) : Int) ≤ n) :
    Calls Tryz.prog 58 #[.int .i64 n, .int .i64 wd] w (PutPostB (putR n wd) (putE n wd) w) := by
  obtain ⟨e1, e2⟩ := putR_no n wd h
  rw [e1, e2]
  clear e1 e2
  by_cases h1 : wd < 0
  · clear h
    go_enter Tryz.func58, Tryz.ntmps58
    go_wp2
    go_ret2
    exact ⟨none, 0, rfl, by simp, Cells.nil _ _, (fun _ _ _ e => nomatch e), Below.refl _ _⟩
  · by_cases h2 : 62 < wd
    · clear h
      go_enter Tryz.func58, Tryz.ntmps58
      go_wp2
      go_ret2
      exact ⟨none, 0, rfl, by simp, Cells.nil _ _, (fun _ _ _ e => nomatch e), Below.refl _ _⟩
    · by_cases h3 : n < 0
      · clear h
        go_enter Tryz.func58, Tryz.ntmps58
        go_wp2
        go_ret2
        exact ⟨none, 0, rfl, by simp, Cells.nil _ _, (fun _ _ _ e => nomatch e), Below.refl _ _⟩
      · obtain ⟨m, rfl⟩ := Int.eq_ofNat_of_zero_le (show 0 ≤ n by omega)
        obtain ⟨k, rfl⟩ := Int.eq_ofNat_of_zero_le (show 0 ≤ wd by omega)
        have h4 := shr_pos m k (by simp only [Int.toNat_natCast] at h; omega)
        clear h
        go_enter Tryz.func58, Tryz.ntmps58
        go_wp2
        go_ret2
        exact ⟨none, 0, rfl, by simp, Cells.nil _ _, (fun _ _ _ e => nomatch e), Below.refl _ _⟩

/-- the block that Put fills: the first k cells are the number's bits -/
def Filling (w : World) (g t m wd k : Nat) : Prop := ∃ cs : Array Value, Blk w g t cs ∧ cs.size = wd ∧ ∀ i, i < k → cs[i]? = some (.bool (m.testBit i))
theorem Filling.next {w : World} {g t m wd k : Nat} (h : Filling w g t m wd k) (hk : k < wd) : Filling (w.setCell ⟨g, k, none⟩ (.bool (m.testBit k))) g t m wd (k + 1) := by
  obtain ⟨cs, hb, hs, hc⟩ := h
  refine ⟨_, hb.set_ k _, by simpa using hs, fun i hi => ?_⟩
  rw [Array.getElem?_setIfInBounds]
  by_cases e : k = i
  · subst e; rw [if_pos rfl, if_pos (by omega)]
  · rw [if_neg e]; exact hc i (by omega)
theorem Filling.cells {w : World} {g t m wd : Nat} (h : Filling w g t m wd wd) : Cells w (some ⟨g, 0, none⟩) ((putLB m wd).map Value.bool) := by
  obtain ⟨cs, hb, hs, hc⟩ := h
  refine fun _ => ⟨g, 0, rfl, hb.lt, fun i v hv => ?_⟩
  rw [Nat.zero_add, hb.cell]
  have hi : i < wd := by
    have := (List.getElem?_eq_some_iff.1 hv).1
    rw [List.length_map, putL_lenB] at this; exact this
  rw [List.getElem?_map, putL_atB m wd i hi] at hv
  injection hv with hv
  rw [hc i hi, ← hv]
theorem Filling.at_ {w : World} {g t m wd k : Nat} (h : Filling w g t m wd k) (j : Nat) (hj : j < wd) : (∃ v, w.cell? ⟨g, j, none⟩ = some v) ∧ w.frozen? ⟨g, j, none⟩ = false := by
  obtain ⟨cs, hb, hs, hc⟩ := h
  exact ⟨⟨cs[j], by rw [hb.cell]; exact Array.getElem?_eq_getElem (by omega)⟩, hb.frozen j⟩

theorem bit_i64 (m k : Nat) (hm : m < 4611686018427387904) (hk : k < 62) : (bits .and .i64 (m : Int) (2 ^ k) != 0) = m.testBit k := by
  have h2 := two_pow_le k 61 (by omega)
  have e2 : (2 : Nat) ^ 61 = 2305843009213693952 := by decide
  have h := and_i64 m (2 ^ k) (by omega) (by omega)
  rw [show ((2 ^ k : Nat) : Int) = (2 : Int) ^ k by simp] at h
  have hd : m / 2 ^ k % 2 * 2 ^ k = m &&& 2 ^ k := (nat_bit k m).symm
  rw [h, ← hd, Nat.testBit_eq_decide_div_mod_eq]
  clear h hd
  have h3 : m / 2 ^ k % 2 = 0 ∨ m / 2 ^ k % 2 = 1 := by omega
  have := Nat.two_pow_pos k
  rcases h3 with h3 | h3
  · rw [h3]; simp
  · rw [h3, Nat.one_mul]; simp; have := two_pow_62 k (by omega); omega

set_option maxRecDepth 100000 in
set_option maxHeartbeats 400000 in
theorem bput_yes (m k : Nat) (w : World) (h2 : k ≤ 62) (h4 : m < 2 ^ k) :
    Calls Tryz.prog 58 #[.int .i64 m, .int .i64 k] w (PutPostB (putR m k) (putE m k) w) := by
  obtain ⟨e1, e2⟩ := putR_yes m k h2 h4
  rw [e1, e2]
  clear e1 e2
  have hz := shr_zero m k h4
  have hm : m < 4611686018427387904 := by
    have h5 := two_pow_le _ _ h2
    have e5 : (2 : Nat) ^ 62 = 4611686018427387904 := by decide
    omega
  have H4 := Lib.hid h4; clear h4
  obtain ⟨i0, hi, hz0, hz1, hz2⟩ := info_parts bool_info
  have hmk := fun W : World => run_make_n (P := Tryz.prog) 120 4 i0 (.bool false) 1 1 Tryz.underlying120 hi hz0 hz1 hz2 .i64 .i64 k k (Nat.le_refl _) (by omega) (by omega) W
  go_enter Tryz.func58, Tryz.ntmps58
  go_wp2
  go_loopw [27] (fun i wr => ∃ j : Nat, j ≤ k ∧ i = .int .i64 j ∧ Filling wr w.heap.size 4 m k j ∧ Below w.heap.size w wr) (fun i _ => k - (intOf i).toNat)
  case atStart => exact ⟨0, Nat.zero_le _, rfl, ⟨_, Blk.new_ _ _ _, by simp [size_madeCells], fun i hi => absurd hi (by omega)⟩, (Below.refl _ _).alloc (Nat.le_refl _) _⟩
  case round =>
    obtain ⟨j, hj, rfl, hf, hbel⟩ := hrel
    by_cases hlt : j < k
    · obtain ⟨⟨v, hv⟩, hfr⟩ := hf.at_ j hlt
      have hbit := bit_i64 m j hm (by omega)
      have hwp := wrap_pow62 j (by omega)
      have hfn := hf.next hlt
      have hbn := hbel.setCell (p := ⟨w.heap.size, j, none⟩) (Nat.le_refl _) (.bool (m.testBit j))
      have HF := Lib.hid hf; clear hf
      go_wp2
      go_roundw
      case rel => exact ⟨j + 1, by omega, by go_num, hfn, hbn⟩
      case measure => simp [intOf]; omega
    · have hkj : k ≤ j := by omega
      have HE : Hid (j = k) := by unfold Hid; omega
      have HF := Lib.hid hf; clear hf
      go_wp2
      go_ret2
      exact ⟨some ⟨w.heap.size, 0, none⟩, k, by rw [putL_lenB]; rfl, by rw [putL_lenB]; unfold maxLen; omega, (show Filling _ _ _ _ k k from HE.out ▸ HF.out).cells, (fun b off s e => by injection e with e; injection e with e _ _; subst e; obtain ⟨cs, hb, _⟩ := HF.out; exact ⟨cs, hb⟩), hbel⟩

theorem bput_ok (n wd : Int) (w : World) : Calls Tryz.prog 58 #[.int .i64 n, .int .i64 wd] w (PutPostB (putR n wd) (putE n wd) w) := by
  by_cases h : wd < 0 ∨ 62 < wd ∨ n < 0 ∨ ((2 ^ wd.toNat : Nat) : Int) ≤ n
  · exact bput_no n wd w h
  · obtain ⟨m, rfl⟩ := Int.eq_ofNat_of_zero_le (show 0 ≤ n by omega)
    obtain ⟨k, rfl⟩ := Int.eq_ofNat_of_zero_le (show 0 ≤ wd by omega)
    exact bput_yes m k w (by omega) (by simp only [Int.toNat_natCast] at h; omega)

/-! ### osierref01.Put -/
theorem shl_no (n wd : Nat) (h4 : 2 ^ wd ≤ n) : (2 : Int) ^ wd - 1 < n := by
  have e : ((2 ^ wd : Nat) : Int) = (2 : Int) ^ wd := by simp
  omega
theorem shl_yes (n wd : Nat) (h4 : n < 2 ^ wd) : (n : Int) ≤ (2 : Int) ^ wd - 1 := by
  have e : ((2 ^ wd : Nat) : Int) = (2 : Int) ^ wd := by simp
  omega
theorem bit2_i64 (m j : Nat) (hm : m < 4611686018427387904) : (bits .and .i64 ((m : Int) / 2 ^ j) 1 == 1) = m.testBit j := by
  have hd : ((m / 2 ^ j : Nat) : Int) = (m : Int) / 2 ^ j := by rw [Int.natCast_ediv]; simp
  have hlt : m / 2 ^ j ≤ m := Nat.div_le_self _ _
  have h := and_i64 (m / 2 ^ j) 1 (by omega) (by decide)
  rw [hd] at h
  rw [show ((1 : Nat) : Int) = 1 from rfl] at h
  rw [h, nat_mask1, Nat.testBit_eq_decide_div_mod_eq]
  have h3 : m / 2 ^ j % 2 = 0 ∨ m / 2 ^ j % 2 = 1 := by omega
  rcases h3 with h3 | h3 <;> rw [h3] <;> rfl
end Go.Proofs.YtobhjkfkdkiigaaGreatDoor

namespace Go.Proofs.YtobhjkfkdkiigaaGreatDoor
open Go.RowKit HP NP LY
structure Cd (w : World) (B p q qn cb : Nat) (S : NS) : Prop where
  sto : Sto w B p S
  ops : OpsM w B p q S
  qu : QuBlk w qn p q
  code : CodeAt w cb qn
  v8 : S.vars = 8
  low : B ≤ w.heap.size
theorem Cd.below {w w' : World} {B p q qn cb : Nat} {S : NS} (h : Cd w B p q qn cb S) (hb : Below w.heap.size w w') : Cd w' B p q qn cb S :=
  ⟨h.sto.below hb, h.ops.below hb, h.qu.below hb h.qu.lt, h.code.below hb, h.v8, Nat.le_trans h.low hb.size⟩
theorem Cd.op {w w' : World} {B p q qn cb : Nat} {S S' : NS} (h : Cd w B p q qn cb S) (hs : Sto w' B p S') (ho : OpsM w' B p q S') (hk : Kp TO B w w') (he : Ext S S') : Cd w' B p q qn cb S' :=
  ⟨hs, ho, hk.blk h.qu rfl, h.code.tn hk, by rw [he.vars]; exact h.v8, Nat.le_trans h.low hk.size⟩
/-- what an operation gives where there is room -/
def YesPost (B p q qn cb : Nat) (S : NS) (g : (Nat → Bool) → Bool) (n : Nat) (w : World) (e : Ending) (w' : World) : Prop :=
  ∃ (S' : NS) (k : Nat), e = .returned (.tuple #[.int .i64 (k : Int), .int .i64 0]) ∧ Cd w' B p q qn cb S' ∧ Kp TO B w w' ∧ GotOk S g n S' k
theorem OpPost.yes {w : World} {B p q qn cb : Nat} {S : NS} {g : (Nat → Bool) → Bool} {n : Nat} {e : Ending} {w' : World} (h : OpPost B p q S g n w e w') (hc : Cd w B p q qn cb S) (hr : NP.cnt S.l + n < S.budget + 1) : YesPost B p q qn cb S g n w e w' := by
  obtain ⟨S', hs, ho, hk, h⟩ := h
  rcases h with ⟨k, he, hg⟩ | ⟨_, hg⟩
  · exact ⟨S', k, he, hc.op hs ho hk hg.ext, hk, hg⟩
  · have := hg.room; omega
theorem cmk_ok (w : World) (B p q qn cb : Nat) (S : NS) (h : Cd w B p q qn cb S) (v lo hi : Nat) (gl gh : (Nat → Bool) → Bool) (hl : Den S lo gl) (hh : Den S hi gh) (fl : From gl (v + 1)) (fh : From gh (v + 1)) (hv : v < 8) (hr : NP.cnt S.l + 1 < S.budget + 1) :
    Calls Tryz.prog 60 #[.pointer (some ⟨p, 0, none⟩), .int .i64 (v : Int), .int .i64 (lo : Int), .int .i64 (hi : Int)] w (YesPost B p q qn cb S (fun ρ => if ρ v then gh ρ else gl ρ) 1 w) :=
  (mk_step w B p q S h.sto h.ops h.low v lo hi gl gh hl hh fl fh (by rw [h.v8]; exact hv)).mono fun _ _ hp => hp.yes h hr
/-! ### what a tuple says -/
/-- the n-th variable of domains, the n-th bit of their values -/
def pv (ds : List Nat) (n : Nat) : Nat := (atN (ds.getD (n / 2) 0)).getD (n % 2) 0
def pb (vals : List Nat) (n : Nat) : Bool := (vals.getD (n / 2) 0).testBit (n % 2)
def tupG (ds vals : List Nat) (ρ : Nat → Bool) : Bool := (List.range (2 * ds.length)).all fun i => ρ (pv ds i) == pb vals i
theorem at_injF : ∀ d d' : Fin 4, ∀ b b' : Fin 2, (atN d.val).getD b.val 0 = (atN d'.val).getD b'.val 0 → d = d' ∧ b = b' := by decide
theorem at_inj (d : Nat) (hd : d < 4) (d' : Nat) (hd' : d' < 4) (b : Nat) (hb : b < 2) (b' : Nat) (hb' : b' < 2) (e : (atN d).getD b 0 = (atN d').getD b' 0) : d = d' ∧ b = b' := by
  obtain ⟨h1, h2⟩ := at_injF ⟨d, hd⟩ ⟨d', hd'⟩ ⟨b, hb⟩ ⟨b', hb'⟩ e
  injection h1 with h1
  injection h2 with h2
  exact ⟨h1, h2⟩
theorem at_lt8F : ∀ d : Fin 4, ∀ b : Fin 2, (atN d.val).getD b.val 0 < 8 := by decide
theorem at_lt8 (d : Nat) (hd : d < 4) (b : Nat) (hb : b < 2) : (atN d).getD b 0 < 8 := at_lt8F ⟨d, hd⟩ ⟨b, hb⟩
theorem getD_mem {ds : List Nat} {i : Nat} (h : i < ds.length) : ds.getD i 0 ∈ ds := by
  rw [List.getD_eq_getElem?_getD, List.getElem?_eq_getElem h]; exact List.getElem_mem h
theorem nodup_getD {ds : List Nat} (hn : ds.Nodup) {i j : Nat} (hi : i < ds.length) (hj : j < ds.length) (e : ds.getD i 0 = ds.getD j 0) : i = j := by
  rw [List.getD_eq_getElem?_getD, List.getD_eq_getElem?_getD, List.getElem?_eq_getElem hi, List.getElem?_eq_getElem hj] at e
  exact (List.getElem_inj hn).1 e
theorem pv_inj {ds : List Nat} (hd : ∀ d ∈ ds, d < 4) (hn : ds.Nodup) {i j : Nat} (hi : i < 2 * ds.length) (hj : j < 2 * ds.length) (e : pv ds i = pv ds j) : i = j := by
  unfold pv at e
  obtain ⟨h1, h2⟩ := at_inj _ (hd _ (getD_mem (by omega))) _ (hd _ (getD_mem (by omega))) _ (Nat.mod_lt _ (by decide)) _ (Nat.mod_lt _ (by decide)) e
  have := nodup_getD hn (by omega) (by omega) h1
  omega
theorem pv_lt {ds : List Nat} (hd : ∀ d ∈ ds, d < 4) {i : Nat} (hi : i < 2 * ds.length) : pv ds i < 8 := at_lt8 _ (hd _ (getD_mem (by omega))) _ (Nat.mod_lt _ (by decide))
/-- what is wanted of each variable, behind n of them -/
def mpT (ds vals : List Nat) : Nat → Nat → Option Bool
  | 0 => fun _ => none
  | n + 1 => fun x => if x = pv ds n then some (pb vals n) else mpT ds vals n x
theorem mpT_at {ds : List Nat} (vals : List Nat) (hd : ∀ d ∈ ds, d < 4) (hn : ds.Nodup) : ∀ (n : Nat), n ≤ 2 * ds.length → ∀ i, i < n → mpT ds vals n (pv ds i) = some (pb vals i)
  | 0, _, i, h => by omega
  | n + 1, hl, i, h => by
    unfold mpT
    by_cases e : pv ds i = pv ds n
    · have := pv_inj hd hn (by omega) (by omega) e
      subst this; rw [if_pos rfl]
    · rw [if_neg e]
      have : i ≠ n := fun e2 => e (by rw [e2])
      exact mpT_at vals hd hn n (by omega) i (by omega)
/-- a map of bools -/
def bM (m : Nat → Option Bool) : Lit → Option Value
  | .int .i64 z => if decide (0 ≤ z) then (m z.toNat).map fun b => .bool b else none
  | _ => none
theorem bM_at (m : Nat → Option Bool) (k : Nat) : bM m (.int .i64 (k : Int)) = (m k).map fun b => .bool b := by
  show (if decide ((0 : Int) ≤ (k : Int)) then (m (k : Int).toNat).map (fun b => Value.bool b) else none) = _
  rw [decide_eq_true (by omega), if_pos rfl, Int.toNat_natCast]
theorem bM_set (m : Nat → Option Bool) (k : Nat) (b : Bool) : setF (bM m) (.int .i64 (k : Int)) (.bool b) = bM (fun x => if x = k then some b else m x) := by
  funext l
  unfold setF
  by_cases e : l = .int .i64 (k : Int)
  · subst e
    simp [bM, Lit.sameKey]
  · rw [Maps.sameKey_ne e]
    simp only [Bool.false_eq_true, if_false]
    cases l with
    | int kd z =>
      cases kd
      case i64 =>
        simp only [bM]
        by_cases hz : 0 ≤ z
        · have : z.toNat ≠ k := by rintro rfl; exact e (by rw [Int.toNat_of_nonneg hz])
          simp [this]
        · simp [hz]
      all_goals rfl
    | _ => rfl
theorem bM_none : bM (fun _ => none) = fun _ => none := by
  funext l
  cases l with
  | int kd z => cases kd <;> simp [bM]
  | _ => rfl
def BMap (w : World) (b : Nat) (m : Nat → Option Bool) : Prop := MapAt w Tryz.prog 3 b (cntS (fun k => (m k).isSome) 8) (bM m)
theorem BMap.new (w : World) : BMap (w.alloc (.map #[] 0)) w.heap.size (fun _ => none) := by
  have c : cntS (fun k => ((fun _ => none : Nat → Option Bool) k).isSome) 8 = 0 := by unfold cntS; simp
  unfold BMap
  rw [c, bM_none]; exact MapAt.made _ _ _
theorem cnt_bM {m : Nat → Option Bool} {k : Nat} {b : Bool} (hk : k < 8) : (if (bM m (.int .i64 (k : Int))).isSome then cntS (fun j => (m j).isSome) 8 else cntS (fun j => (m j).isSome) 8 + 1) = cntS (fun j => ((fun x => if x = k then some b else m x : Nat → Option Bool) j).isSome) 8 := by
  rw [bM_at]
  have hc : ∀ j, ((fun j => ((fun x => if x = k then some b else m x : Nat → Option Bool) j).isSome) j = true) ↔ (NP.setB (fun j => (m j).isSome) k) j = true := fun j => by
    unfold NP.setB
    by_cases e : j = k <;> simp [e]
  cases hm : m k with
  | none =>
    rw [cntS_congr 8 hc, cntS_set hk (by simp [hm])]; rfl
  | some x =>
    show cntS (fun j => (m j).isSome) 8 = _
    rw [cntS_congr 8 hc]
    refine cntS_congr 8 fun j => ?_
    unfold NP.setB
    by_cases e : j = k
    · subst e; simp [hm]
    · simp [e]
/-! ### a conjunction of literals, from the last variable up -/
def cnjG (f : Nat → Bool) (l : List Nat) (ρ : Nat → Bool) : Bool := l.all fun v => ρ v == f v
theorem cnjG_from {f : Nat → Bool} {l : List Nat} {u : Nat} (h : ∀ v ∈ l, u ≤ v) : From (cnjG f l) u := fun ρ σ he => by
  unfold cnjG
  induction l with
  | nil => rfl
  | cons v l ih => rw [List.all_cons, List.all_cons, he v (h v (by simp)), ih fun x hx => h x (List.mem_cons_of_mem _ hx)]
theorem cnjG_cons (f : Nat → Bool) (v : Nat) (l : List Nat) (ρ : Nat → Bool) : cnjG f (v :: l) ρ = if ρ v then (if f v then cnjG f l ρ else false) else (if f v then false else cnjG f l ρ) := by
  unfold cnjG
  rw [List.all_cons]
  cases ρ v <;> cases f v <;> simp
theorem cnj_tup {ds vals : List Nat} {f : Nat → Bool} {L : List Nat} (hm : ∀ x, x ∈ L ↔ ∃ i, i < 2 * ds.length ∧ x = pv ds i) (hf : ∀ i, i < 2 * ds.length → f (pv ds i) = pb vals i) (ρ : Nat → Bool) : cnjG f L ρ = tupG ds vals ρ := by
  refine bool_iff ?_
  unfold cnjG tupG
  rw [List.all_eq_true, List.all_eq_true]
  constructor
  · intro h i hi
    have hi' := List.mem_range.1 hi
    rw [← hf i hi']
    exact h _ ((hm _).2 ⟨i, hi', rfl⟩)
  · intro h x hx
    obtain ⟨i, hi, rfl⟩ := (hm x).1 hx
    rw [hf i hi]
    exact h i (List.mem_range.2 hi)
end Go.Proofs.YtobhjkfkdkiigaaGreatDoor

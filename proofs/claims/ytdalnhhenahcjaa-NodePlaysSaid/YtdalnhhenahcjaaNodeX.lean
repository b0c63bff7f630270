/- The bits of a number as a slice of bools (osierlaw03.bits, values). -/
import Derived.Test.YtdalnhhenahcjaaNodeV
import Derived.Test.YtdalnhhenahcjaaNodeW
namespace Go.Proofs.Ytdalnhhenahcjaa
open Go.RowKit HP NP
/-- bit k of a number -/
def bt (n : Int) (k : Nat) : Bool := bits .and .i64 (n / 2 ^ k) 1 == 1
theorem info_bool : (Try.prog.info? 4).map (fun i => (i.zero, i.size, i.bytes)) = some (some (.bool false), 1, 1) := by kernel_rfl
theorem bool_ones (b : Bool) : ∀ u ∈ [Value.bool b], u.oneCell' = true := by intro u hu; simp at hu; subst hu; rfl
def bitsL (n : Int) : List Bool := (List.range 16).map (bt n)
/-- a slice that reads as a list of bools, whose block holds bools and was made from B on -/
def BoolsAt (w : World) (B : Nat) (a : Option Addr) (l : List Bool) : Prop := Cells w a (l.map Value.bool) ∧ TB w a 4 ∧ ∀ b off s, a = some ⟨b, off, s⟩ → B ≤ b
theorem BoolsAt.kb {T : TypeId → Bool} {w w' : World} {B : Nat} {a : Option Addr} {l : List Bool} (h : BoolsAt w B a l) (hk : Kb T w w') (ht : T 4 = false) : BoolsAt w' B a l := ⟨h.1.kb h.2.1 hk ht, h.2.1.kb hk ht, h.2.2⟩
theorem BoolsAt.below {w w' : World} {B : Nat} {a : Option Addr} {l : List Bool} (h : BoolsAt w B a l) (hb : Below w.heap.size w w') : BoolsAt w' B a l := h.kb (T := fun _ => false) (Kp.of_below (B := 0) hb).kb rfl
theorem BoolsAt.own {w : World} {B n cap : Nat} {a : Option Addr} {l : List Bool} (h : w.ownsRow B 4 1 (.slice a n cap) n (l.map Value.bool)) : BoolsAt w B a l :=
  ⟨own_cellsV h, own_tbV h, fun b off s e => (h.lt b (by rw [e]; rfl)).1⟩
set_option maxRecDepth 100000 in
set_option maxHeartbeats 1000000 in
theorem bits_ok (w : World) (n : Int) : Calls Try.prog 26 #[.int .i64 n] w fun e w' => ∃ a c, e = .returned (.slice a 16 c) ∧ BoolsAt w' w.heap.size a (bitsL n) ∧ Below w.heap.size w w' := by
  obtain ⟨j0, hj0, yz0, yz1, yz2⟩ := info_parts info_bool
  go_enter Try.func26, Try.ntmps26
  go_wp2_with fail
  go_loopg [3, 4] 16 (fun m y x wr => ∃ k : Nat, m + k = 16 ∧ x = .int .i64 (k : Int) ∧ wr.ownsRow w.heap.size 4 1 y k (((List.range k).map (bt n)).map Value.bool) ∧ Below w.heap.size w wr)
  case atStart => exact ⟨0, rfl, rfl, World.ownsRow_nil _ _ _ _, Below.refl _ _⟩
  case round =>
    rename_i y _
    obtain ⟨k, hm, rfl, hown, hb⟩ := hrel
    have HOWN := Lib.hid hown
    have HM := Lib.hid hm; have HB := Lib.hid hb
    have hsz := hb.size
    clear hown hm hb
    by_cases hk : k < 16
    · go_wp2_with (at_builtin; refine wpList_append_src rfl (.tmp 9) (.tmp 15) 60 rfl w.heap.size 4 j0 (.bool false) 1 1 Try.underlying60 hj0 yz0 yz1 yz2 rfl (by decide) _ k _ rfl (HOWN.out.alloc _) (some ⟨wr.heap.size, 0, none⟩) 1 1 [.bool (bt n k)] rfl rfl (Cells.lit _ _ _) (bool_ones _) (by unfold maxLen; omega) (by omega) (by simp; omega) ?_)
      intro v' w6 hown hg _
      have HO6 := Lib.hid hown
      have HB6 := Lib.hid ((HB.out.alloc hsz (.cells #[.bool (bt n k)] 4)).grown hg (by simp; omega) (fun j hj => (HOWN.out.lt j hj).1))
      clear hown hg
      go_wp2_with fail
      go_roundg (16 - (k + 1))
      case measure => have := HM.out; omega
      case rel => exact ⟨k + 1, by have := HM.out; omega, by go_num, by have := HO6.out; simpa [List.range_succ] using this, HB6.out⟩
    · have hk16 : k = 16 := by have := HM.out; omega
      subst hk16
      obtain ⟨oa, oc, rfl⟩ := own_shape HOWN.out
      go_wp2_with fail
      go_ret
      exact ⟨oa, oc, rfl, BoolsAt.own HOWN.out, HB.out⟩
def valsL (n : Int) : List Bool := [bt n 0, bt n 1, bt n 2, bt n 3]
set_option maxHeartbeats 1000000 in
theorem values_ok (w : World) (n : Int) : Calls Try.prog 29 #[.int .i64 n] w fun e w' => ∃ b, e = .returned (.slice (some ⟨b, 0, none⟩) 4 4) ∧ Blk w' b 4 #[.bool (bt n 0), .bool (bt n 1), .bool (bt n 2), .bool (bt n 3)] ∧ w.heap.size ≤ b ∧ Below w.heap.size w w' := by
  go_enter Try.func29, Try.ntmps29
  go_wp2_with fail
  go_ret
  have e0 : (bits .and .i64 n 1 == 1) = bt n 0 := by unfold bt; simp
  have e1 : (bits .and .i64 (n / 2) 1 == 1) = bt n 1 := rfl
  have e2 : (bits .and .i64 (n / 4) 1 == 1) = bt n 2 := rfl
  have e3 : (bits .and .i64 (n / 8) 1 == 1) = bt n 3 := rfl
  rw [e0, e1, e2, e3]
  exact ⟨w.heap.size, rfl, Blk.new_ w 4 #[.bool (bt n 0), .bool (bt n 1), .bool (bt n 2), .bool (bt n 3)], Nat.le_refl _, (Below.refl _ _).alloc (Nat.le_refl _) _⟩
end Go.Proofs.Ytdalnhhenahcjaa

/- NodeNobody: the walk. -/
import Derived.Test.YtdalnhhenahcjaaNodeO
namespace Go.Proofs.Ytdalnhhenahcjaa
open Go.RowKit HP NP
set_option maxRecDepth 100000 in
set_option maxHeartbeats 4000000 in
theorem nodeNobody_walk (w : World) (k : Int) (_wk : (Lit.int .i64 k).wf = true) (la : Option Addr) (lc : Nat) (l : List Bool) (hlm : l.length ≤ maxLen) (_hl : Cells w la (l.map Value.bool)) : Calls Try.prog 14 #[.int .i64 k, .slice la l.length lc] w (Fine w) := by
  have hll : l.length ≤ 9223372036854775807 := by unfold maxLen at hlm; omega
  clear hlm
  go_enter Try.func14, Try.ntmps14
  go_wp2_with fail
  have hz := (Blk.new_ w 91 #[.int .i64 0, .int .i64 0, .slice none 0 0, .slice none 0 0, .pointer none, .int .i64 0, .int .i64 0, .int .i64 0]).alloc_ (.cells #[.pointer none, .pointer (some ⟨w.heap.size, 0, none⟩)] 57)
  have hx := Blk.new_ (w.alloc (.cells #[.int .i64 0, .int .i64 0, .slice none 0 0, .slice none 0 0, .pointer none, .int .i64 0, .int .i64 0, .int .i64 0] 91)) 57 #[.pointer none, .pointer (some ⟨w.heap.size, 0, none⟩)]
  rw [show (w.alloc (.cells #[.int .i64 0, .int .i64 0, .slice none 0 0, .slice none 0 0, .pointer none, .int .i64 0, .int .i64 0, .int .i64 0] 91)).heap.size = w.heap.size + 1 by simp] at hx
  have hb0 : Below w.heap.size w ((w.alloc (.cells #[.int .i64 0, .int .i64 0, .slice none 0 0, .slice none 0 0, .pointer none, .int .i64 0, .int .i64 0, .int .i64 0] 91)).alloc (.cells #[.pointer none, .pointer (some ⟨w.heap.size, 0, none⟩)] 57)) := ((Below.refl _ _).alloc (Nat.le_refl _) _).alloc (by simp) _
  generalize hW : ((w.alloc (.cells #[.int .i64 0, .int .i64 0, .slice none 0 0, .slice none 0 0, .pointer none, .int .i64 0, .int .i64 0, .int .i64 0] 91)).alloc (.cells #[.pointer none, .pointer (some ⟨w.heap.size, 0, none⟩)] 57)) = W at hz hx hb0 ⊢
  have HZ := Lib.hid hz; have HX := Lib.hid hx; have HB0 := Lib.hid hb0
  clear hW hz hx hb0
  go_loopg [6] 2 (fun m x wr => ∃ i : Nat, m + i = 2 ∧ x = .int .i64 (i : Int) ∧ Below W.heap.size W wr)
  case atStart => exact ⟨0, rfl, rfl, Below.refl _ _⟩
  case round =>
    obtain ⟨i, hm, rfl, hb⟩ := hrel
    have HM := Lib.hid hm; have HB := Lib.hid hb
    have hxr := HX.out.below hb HX.out.lt
    clear hm hb
    by_cases hi : i < 2
    · obtain ⟨a, hc, hns⟩ : ∃ a, wr.cell? ⟨w.heap.size + 1, i, none⟩ = some (.pointer a) ∧ NoSt wr a := by
        have : i = 0 ∨ i = 1 := by omega
        rcases this with rfl | rfl
        · exact ⟨none, hxr.cell 0, .inl rfl⟩
        · exact ⟨some ⟨w.heap.size, 0, none⟩, hxr.cell 1, .inr ⟨_, rfl, HZ.out.below HB.out HZ.out.lt⟩⟩
      have HNS := Lib.hid hns
      have hxl : w.heap.size + 1 < wr.heap.size := hxr.lt
      have HXR := Lib.hid hxr
      clear hns hxr
      go_wp2_with fail
      refine (ng_mk wr a HNS.out k k k).mono ?_
      rintro e w4 ⟨rfl, hb4⟩
      have HN4 := Lib.hid (HNS.out.below hb4); have HB4 := Lib.hid (HB.out.trans (hb4.mono HB.out.size))
      have hc4 : w4.cell? ⟨w.heap.size + 1, i, none⟩ = some (.pointer a) := (hb4.cell (p := ⟨w.heap.size + 1, i, none⟩) hxl).trans hc
      clear hb4 hc hxl
      go_wp2_with fail
      refine (ng_node w4 a HN4.out k).mono ?_
      rintro e w5 ⟨rfl, rfl⟩
      go_wp2_with fail
      refine (ng_eval w4 a HN4.out k la l.length lc).mono ?_
      rintro e w5 ⟨rfl, rfl⟩
      go_wp2_with fail
      refine (ng_size w4 a HN4.out k).mono ?_
      rintro e w5 ⟨rfl, rfl⟩
      go_wp2_with fail
      refine (ng_pin w4 a HN4.out k).mono ?_
      rintro e w5 ⟨rfl, rfl⟩
      go_wp2_with fail
      refine (ng_unpin w4 a HN4.out k).mono ?_
      rintro e w5 ⟨rfl, rfl⟩
      go_wp2_with fail
      refine (ng_sweep w4 a HN4.out).mono ?_
      rintro e w5 ⟨rfl, rfl⟩
      go_wp2_with fail
      refine (ng_len w4 a HN4.out).mono ?_
      rintro e w5 ⟨rfl, rfl⟩
      go_wp2_with fail
      refine (ng_made w4 a HN4.out).mono ?_
      rintro e w5 ⟨rfl, rfl⟩
      go_wp2_with fail
      refine (ng_sweeps w4 a HN4.out).mono ?_
      rintro e w5 ⟨rfl, rfl⟩
      go_wp2_with fail
      refine (ng_vars w4 a HN4.out).mono ?_
      rintro e w5 ⟨rfl, rfl⟩
      go_wp2_with fail
      go_roundg (2 - (i + 1))
      case measure => have := HM.out; omega
      case rel => exact ⟨i + 1, by have := HM.out; omega, by go_num, HB4.out⟩
    · have hge : 2 ≤ i := by omega
      have HBZ := Lib.hid (HB0.out.trans (HB.out.mono HB0.out.size))
      clear hi hxr
      go_wp2_with fail
      refine (awake03 wr).mono ?_
      rintro e w6 ⟨rfl, hb6⟩
      go_wp2_with fail
      go_ret
      exact ⟨rfl, HBZ.out.trans (hb6.mono HBZ.out.size)⟩
end Go.Proofs.Ytdalnhhenahcjaa

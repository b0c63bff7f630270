/- Layer 6: the contract of osierref01.SameBits (the text Same, turned to this seat). -/
import Derived.Test.YtoegenacjhmicaaCountY
namespace Go.Proofs.Ytoegenacjhmicaa
open Go.RowKit HP NP

theorem take_eq6 {α : Type} (l m : List α) (k : Nat) (x : α) (h : l.take k = m.take k) (h1 : l[k]? = some x) (h2 : m[k]? = some x) : l.take (k + 1) = m.take (k + 1) := by
  rw [List.take_add_one, List.take_add_one, h, h1, h2]
theorem ne_of_at6 {α : Type} (l m : List α) (k : Nat) (x y : α) (h1 : l[k]? = some x) (h2 : m[k]? = some y) (h : x ≠ y) : l ≠ m := by
  rintro rfl; rw [h1] at h2; injection h2 with h2; exact h h2

theorem bools6 {l : List Bool} {k : Nat} {x : Bool} (h : l[k]? = some x) : (l.map Value.bool)[k]? = some (.bool x) := by rw [List.getElem?_map, h]; rfl
set_option maxHeartbeats 400000 in
theorem sameBits6 (a b : Option Addr) (ca cb : Nat) (l m : List Bool) (w : World) (hl : l.length ≤ maxLen) (_hm : m.length ≤ maxLen) (hc : Cells w a (l.map Value.bool)) (hd : Cells w b (m.map Value.bool)) :
    Calls Try.prog 28 #[.slice a l.length ca, .slice b m.length cb] w (Tells (decide (l = m)) w) := by
  unfold maxLen at hl
  by_cases h : l.length = m.length
  · have hb0 : ((l.length : Int) != (m.length : Int)) = false := by rw [h]; simp
    have H := Lib.hid h; clear h
    go_enter Try.func28, Try.ntmps28
    go_wp2
    go_loopw [5] (fun i wr => ∃ k n : Nat, wr = w.drewN n ∧ k ≤ l.length ∧ i = .int .i64 k ∧ Hid (l.take k = m.take k)) (fun i _ => l.length - (intOf i).toNat)
    case atStart => exact ⟨0, 0, rfl, Nat.zero_le _, rfl, rfl⟩
    case round =>
      obtain ⟨k, n, rfl, hk, rfl, hkk⟩ := hrel
      by_cases hlt : k < l.length
      · have hltm : k < m.length := by have := H.out; omega
        obtain ⟨x, hx⟩ : ∃ x, l[k]? = some x := ⟨l[k], List.getElem?_eq_getElem hlt⟩
        obtain ⟨y, hy⟩ : ∃ y, m[k]? = some y := ⟨m[k], List.getElem?_eq_getElem hltm⟩
        obtain ⟨b1, off1, rfl, hb1, hcell1⟩ := hc.at_ (bools6 hx)
        obtain ⟨b2, off2, rfl, hb2, hcell2⟩ := hd.at_ (bools6 hy)
        have Hx := Lib.hid hx; clear hx
        have Hy := Lib.hid hy; clear hy
        have g1 : (k : Int) < (l.length : Int) := by omega
        have g2 : (k : Int) < (m.length : Int) := by omega
        by_cases hxy : x = y
        · subst hxy
          go_wp2
          go_quiet (fail)
          go_wp2
          go_roundw
          case rel => exact ⟨k + 1, _, rfl, by omega, by go_num, take_eq6 l m k _ hkk.out Hx.out Hy.out⟩
          case measure => simp [intOf]; omega
        · have Hne := Lib.hid (ne_of_at6 l m k x y Hx.out Hy.out hxy)
          have hbx : (x != y) = true := by rw [bne_iff_ne]; exact hxy
          have Hxy := Lib.hid hxy; clear hxy
          cases x <;> cases y <;> first | exact absurd rfl Hxy.out | skip
          all_goals
            go_wp2
            go_quiet (fail)
            go_wp2
            go_ret
            exact ⟨ret_bool (by rw [decide_eq_false Hne.out]), _, World.drewN_drewN _ _ _⟩
      · have hkk2 : k = l.length := by omega
        have Heq : Hid (l = m) := by
          have h1 := hkk.out
          rw [hkk2, List.take_length, H.out, List.take_length] at h1; exact h1
        clear hkk2
        go_wp2
        go_ret
        exact ⟨ret_bool (by rw [decide_eq_true Heq.out]), _, rfl⟩
  · have hb0 : ((l.length : Int) != (m.length : Int)) = true := by rw [bne_iff_ne]; omega
    have Hne : Hid (l ≠ m) := by intro e; exact h (by rw [e])
    clear h
    go_enter Try.func28, Try.ntmps28
    go_wp2
    go_ret
    exact ⟨ret_bool (by rw [decide_eq_false Hne.out]), 0, rfl⟩
end Go.Proofs.Ytoegenacjhmicaa

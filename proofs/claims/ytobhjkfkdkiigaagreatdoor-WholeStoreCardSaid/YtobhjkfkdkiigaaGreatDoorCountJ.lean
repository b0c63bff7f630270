/- The text of CompJ for a seat without layer 19. The contracts of osierref01.SameInts and SameRows: they say whether two lists of numbers (of rows) are one; they draw, and write nothing. -/
import Derived.Test.YtobhjkfkdkiigaaGreatDoorAppS
import Derived.Test.YtobhjkfkdkiigaaGreatDoorMap
namespace Go.Proofs.YtobhjkfkdkiigaaGreatDoor
open Go.RowKit
theorem int_infoC : (Tryz.prog.info? 3).map (fun i => (i.zero, i.size, i.bytes)) = some (some (.int .i64 0), 1, 8) := by kernel_rfl
def iV (l : List Nat) : List Value := l.map fun (k : Nat) => Value.int .i64 (k : Int)
theorem iV_len (l : List Nat) : (iV l).length = l.length := by simp [iV]
theorem iV_app (l m : List Nat) : iV (l ++ m) = iV l ++ iV m := by simp [iV]
theorem take_eq_next {α : Type} (l m : List α) (k : Nat) (x : α) (h : l.take k = m.take k) (h1 : l[k]? = some x) (h2 : m[k]? = some x) : l.take (k + 1) = m.take (k + 1) := by
  rw [List.take_add_one, List.take_add_one, h1, h2, h]
theorem ne_of_at {α : Type} (l m : List α) (k : Nat) (x y : α) (h1 : l[k]? = some x) (h2 : m[k]? = some y) (h : x ≠ y) : l ≠ m := by
  rintro rfl; rw [h1] at h2; injection h2 with h2; exact h h2
/-- what a comparison leaves: the answer; the world but for draws -/
abbrev Tells (p : Bool) (w : World) (e : Ending) (w' : World) : Prop := e = .returned (.bool p) ∧ ∃ n, w' = w.drewN n
def zV (l : List Int) : List Value := l.map fun z => .int .i64 z
theorem zV_at {l : List Int} {k : Nat} {x : Int} (h : l[k]? = some x) : (zV l)[k]? = some (.int .i64 x) := by unfold zV; rw [List.getElem?_map, h]; rfl
theorem iV_z (l : List Nat) : iV l = zV (l.map fun k : Nat => (k : Int)) := by simp [iV, zV]
set_option maxHeartbeats 800000 in
theorem sameInts_ok (w : World) (a b : Option Addr) (ca cb : Nat) (l m : List Int) (hl : l.length ≤ maxLen) (hc : Cells w a (zV l)) (hd : Cells w b (zV m)) :
    Calls Tryz.prog 29 #[.slice a l.length ca, .slice b m.length cb] w (Tells (l == m) w) := by
  unfold maxLen at hl
  by_cases h : l.length = m.length
  · obtain ⟨N, hN⟩ : ∃ N, l.length = N := ⟨_, rfl⟩
    have HL := Lib.hid hN; have HM : Hid (m.length = N) := Lib.hid (by rw [← h, hN])
    have HC := Lib.hid hc; have HD := Lib.hid hd
    rw [← h, hN]
    rw [hN] at hl
    clear hN h hc hd
    go_enter Tryz.func29, Tryz.ntmps29
    go_wp2_with fail
    go_loopg [5] N (fun mm x wr => ∃ k n : Nat, mm + k = N ∧ wr = w.drewN n ∧ x = .int .i64 (k : Int) ∧ l.take k = m.take k)
    case atStart => exact ⟨0, 0, rfl, rfl, rfl, rfl⟩
    case round =>
      obtain ⟨k, n, hm, rfl, rfl, hkk⟩ := hrel
      have HMM := Lib.hid hm; have HKK := Lib.hid hkk
      clear hm hkk
      by_cases hlt : k < N
      · obtain ⟨x, hx⟩ : ∃ x, l[k]? = some x := ⟨_, List.getElem?_eq_getElem (by rw [HL.out]; exact hlt)⟩
        obtain ⟨y, hy⟩ : ∃ y, m[k]? = some y := ⟨_, List.getElem?_eq_getElem (by rw [HM.out]; exact hlt)⟩
        obtain ⟨b1, off1, e1, hb1, hc1⟩ := HC.out.at_ (zV_at hx)
        obtain ⟨b2, off2, e2, hb2, hc2⟩ := HD.out.at_ (zV_at hy)
        subst e1 e2
        have HX := Lib.hid hx; have HY := Lib.hid hy
        clear hx hy
        by_cases hxy : x = y
        · subst hxy
          have hd : (x != x) = false := by simp
          go_wp2_with fail
          go_quiet (fail)
          go_wp2_with fail
          go_roundg (N - (k + 1))
          case measure => have := HMM.out; omega
          case rel => exact ⟨k + 1, _, by have := HMM.out; omega, rfl, by go_num, take_eq_next l m k _ HKK.out HX.out HY.out⟩
        · have hd : (x != y) = true := by rw [bne_iff_ne]; exact hxy
          have HNE := Lib.hid (ne_of_at l m k x y HX.out HY.out hxy)
          clear hxy
          go_wp2_with fail
          go_quiet (fail)
          go_wp2_with fail
          go_ret
          exact ⟨by rw [beq_eq_false_iff_ne.2 HNE.out]; rfl, _, World.drewN_drewN _ _ _⟩
      · have hkN : k = N := by have := HMM.out; omega
        have HEQ : Hid (l = m) := Lib.hid (by
          have h1 := HKK.out
          rw [List.take_of_length_le (by rw [HL.out]; omega), List.take_of_length_le (by rw [HM.out]; omega)] at h1; exact h1)
        go_wp2_with fail
        go_ret
        exact ⟨by rw [beq_iff_eq.2 HEQ.out]; rfl, _, rfl⟩
  · have hb0 : ((l.length : Int) != (m.length : Int)) = true := by rw [bne_iff_ne]; omega
    have HNE : Hid (l ≠ m) := Lib.hid (by intro e; exact h (by rw [e]))
    clear h hc hd
    go_enter Tryz.func29, Tryz.ntmps29
    go_wp2_with fail
    go_ret
    exact ⟨by rw [beq_eq_false_iff_ne.2 HNE.out]; rfl, 0, rfl⟩
/-- a slice of rows of numbers -/
def RowsAt (w : World) (a : Option Addr) (L : List (List Int)) : Prop :=
  ∃ sls : List Value, Cells w a sls ∧ ∀ (i : Nat) (l : List Int), L[i]? = some l → l.length ≤ maxLen ∧ ∃ ad cap, sls[i]? = some (Value.slice ad l.length cap) ∧ Cells w ad (zV l)
theorem RowsAt.below {w w' : World} {a : Option Addr} {L : List (List Int)} (h : RowsAt w a L) (hb : Below w.heap.size w w') : RowsAt w' a L := by
  obtain ⟨sls, h1, h2⟩ := h
  exact ⟨sls, h1.below hb, fun i l hl => ⟨(h2 i l hl).1, by
    obtain ⟨_, ad, cap, h3, h4⟩ := h2 i l hl
    exact ⟨ad, cap, h3, h4.below hb⟩⟩⟩
theorem RowsAt.at_ {w : World} {a : Option Addr} {L : List (List Int)} (h : RowsAt w a L) {i : Nat} {l : List Int} (hl : L[i]? = some l) :
    ∃ b off ad cap, a = some ⟨b, off, none⟩ ∧ b < w.heap.size ∧ w.cell? ⟨b, off + i, none⟩ = some (Value.slice ad l.length cap) ∧ Cells w ad (zV l) ∧ l.length ≤ maxLen := by
  obtain ⟨sls, h1, h2⟩ := h
  obtain ⟨h0, ad, cap, h3, h4⟩ := h2 i l hl
  obtain ⟨b, off, e, hb, hc⟩ := h1.at_ h3
  exact ⟨b, off, ad, cap, e, hb, hc, h4, h0⟩
theorem drew_below (w : World) (n : Nat) : Below w.heap.size w (w.drewN n) := ⟨rfl, rfl, rfl, Nat.le_refl _, fun _ _ => rfl⟩
theorem drew_more {w wr : World} (h : ∃ n, wr = w.drewN n) (q : Nat) : ∃ n, wr.drewN q = w.drewN n := by
  obtain ⟨n, rfl⟩ := h
  exact ⟨_, World.drewN_drewN _ _ _⟩
set_option maxHeartbeats 1600000 in
theorem sameRows_ok (w : World) (a b : Option Addr) (ca cb : Nat) (L M : List (List Int)) (hl : L.length ≤ maxLen) (hc : RowsAt w a L) (hd : RowsAt w b M) :
    Calls Tryz.prog 16 #[.slice a L.length ca, .slice b M.length cb] w (Tells (L == M) w) := by
  unfold maxLen at hl
  by_cases h : L.length = M.length
  · obtain ⟨N, hN⟩ : ∃ N, L.length = N := ⟨_, rfl⟩
    have HL := Lib.hid hN; have HM : Hid (M.length = N) := Lib.hid (by rw [← h, hN])
    have HC := Lib.hid hc; have HD := Lib.hid hd
    rw [← h, hN]
    rw [hN] at hl
    clear hN h hc hd
    go_enter Tryz.func16, Tryz.ntmps16
    go_wp2_with fail
    go_loopg [5] N (fun mm x wr => ∃ k : Nat, mm + k = N ∧ (∃ n, wr = w.drewN n) ∧ x = .int .i64 (k : Int) ∧ L.take k = M.take k)
    case atStart => exact ⟨0, rfl, ⟨0, rfl⟩, rfl, rfl⟩
    case round =>
      obtain ⟨k, hm, hwn, rfl, hkk⟩ := hrel
      have hbw : Below w.heap.size w wr := by obtain ⟨n, rfl⟩ := hwn; exact drew_below w n
      have HMM := Lib.hid hm; have HKK := Lib.hid hkk; have HWN := Lib.hid hwn; have HBW := Lib.hid hbw
      clear hm hkk hwn hbw
      by_cases hlt : k < N
      · obtain ⟨x, hx⟩ : ∃ x, L[k]? = some x := ⟨_, List.getElem?_eq_getElem (by rw [HL.out]; exact hlt)⟩
        obtain ⟨y, hy⟩ : ∃ y, M[k]? = some y := ⟨_, List.getElem?_eq_getElem (by rw [HM.out]; exact hlt)⟩
        obtain ⟨b1, off1, a1, c1, e1, hb1, hc1, hr1, hx1⟩ := (HC.out.below HBW.out).at_ hx
        obtain ⟨b2, off2, a2, c2, e2, hb2, hc2, hr2, hx2⟩ := (HD.out.below HBW.out).at_ hy
        subst e1 e2
        have HX := Lib.hid hx; have HY := Lib.hid hy
        have HSI := Lib.hid (fun q => sameInts_ok (wr.drewN q) a1 a2 c1 c2 x y hx1 (hr1.below (drew_below wr q)) (hr2.below (drew_below wr q)))
        clear hx hy hr1 hr2 hx1 hx2
        by_cases hxy : x = y
        · subst hxy
          have e : (x == x) = true := beq_iff_eq.2 rfl
          rw [e] at HSI
          clear e
          obtain ⟨lx, hlx⟩ : ∃ lx, x.length = lx := ⟨_, rfl⟩
          rw [hlx] at HSI hc1 hc2
          clear hlx
          go_wp2_with fail
          go_quiet ((go_at_call 29; with_reducible exact Calls.quiet_of (HSI.out _)))
          go_wp2_with fail
          go_roundg (N - (k + 1))
          case measure => have := HMM.out; omega
          case rel => exact ⟨k + 1, by have := HMM.out; omega, drew_more HWN.out _, by go_num, take_eq_next L M k _ HKK.out HX.out HY.out⟩
        · have HNE := Lib.hid (ne_of_at L M k x y HX.out HY.out hxy)
          have e : (x == y) = false := beq_eq_false_iff_ne.2 hxy
          rw [e] at HSI
          clear e hxy
          obtain ⟨lx, hlx⟩ : ∃ lx, x.length = lx := ⟨_, rfl⟩
          obtain ⟨ly, hly⟩ : ∃ ly, y.length = ly := ⟨_, rfl⟩
          rw [hlx, hly] at HSI
          rw [hlx] at hc1
          rw [hly] at hc2
          clear hlx hly
          go_wp2_with fail
          go_quiet ((go_at_call 29; with_reducible exact Calls.quiet_of (HSI.out _)))
          go_wp2_with fail
          go_ret
          exact ⟨by rw [beq_eq_false_iff_ne.2 HNE.out]; rfl, drew_more HWN.out _⟩
      · have hkN : k = N := by have := HMM.out; omega
        have HEQ : Hid (L = M) := Lib.hid (by
          have h1 := HKK.out
          rw [List.take_of_length_le (by rw [HL.out]; omega), List.take_of_length_le (by rw [HM.out]; omega)] at h1; exact h1)
        go_wp2_with fail
        go_ret
        exact ⟨by rw [beq_iff_eq.2 HEQ.out]; rfl, HWN.out⟩
  · have hb0 : ((L.length : Int) != (M.length : Int)) = true := by rw [bne_iff_ne]; omega
    have HNE : Hid (L ≠ M) := Lib.hid (by intro e; exact h (by rw [e]))
    clear h hc hd
    go_enter Tryz.func16, Tryz.ntmps16
    go_wp2_with fail
    go_ret
    exact ⟨by rw [beq_eq_false_iff_ne.2 HNE.out]; rfl, 0, rfl⟩
end Go.Proofs.YtobhjkfkdkiigaaGreatDoor

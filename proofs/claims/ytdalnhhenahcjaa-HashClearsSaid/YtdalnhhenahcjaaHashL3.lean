/- HashClears: the walk. -/
import Derived.Test.YtdalnhhenahcjaaHashL2
namespace Go.Proofs.Ytdalnhhenahcjaa
open Go.RowKit HP

set_option maxRecDepth 100000 in
set_option maxHeartbeats 4000000 in
theorem hashClears_walk (w : World) (a : Option Addr) (cap : Nat) (ks : List Key) (_hlc : ks.length ≤ cap) (_hm : cap ≤ maxLen) (hc : Cells w a (ks.flatMap keyCells)) (_wf : ∀ y ∈ ks, wfI y.1 ∧ wfI y.2.1 ∧ wfI y.2.2)
    (a' : Option Addr) (cap' : Nat) (ls : List Key) (_hlc' : ls.length ≤ cap') (_hm' : cap' ≤ maxLen) (hd : Cells w a' (ls.flatMap keyCells)) (_wf' : ∀ y ∈ ls, wfI y.1 ∧ wfI y.2.1 ∧ wfI y.2.2) :
    Calls Try.prog 4 #[.slice a ks.length cap, .slice a' ls.length cap'] w (Fine w) := by
  have hml : ks.length ≤ 9223372036854775807 := by unfold maxLen at _hm; omega
  have hml' : ls.length ≤ 9223372036854775807 := by unfold maxLen at _hm'; omega
  go_enter Try.func4, Try.ntmps4
  go_wp2_with fail
  refine (tnew w w (Below.refl _ _)).mono ?_
  rintro e w1 ⟨p, rfl, h1, _, _⟩
  go_wp2_with fail
  refine (t2new w w1 p _ _ h1).mono ?_
  rintro e w2 ⟨q, rfl, h2⟩
  by_cases h60 : ks.length ≤ 60 ∧ ls.length ≤ 60
  case' neg =>
    have hb : Below w.heap.size w w2 := h2.bel
    rcases (by omega : 60 < ks.length ∨ ks.length ≤ 60 ∧ 60 < ls.length) with h6 | ⟨h5, h6⟩
    all_goals
      clear h60
      go_wp2_with fail
      refine (awake02 _).mono ?_
      rintro e w5 ⟨rfl, h5⟩
      go_wp2_with fail
      go_ret
      exact ⟨rfl, hb.trans (h5.mono hb.size)⟩
  obtain ⟨hk60, hl60⟩ := h60
  have H2 := Lib.hid h2; clear h2
  go_wp2_with fail
  go_loopg [7] ks.length (fun m x wr => ∃ i : Nat, m + i = ks.length ∧ x = .int .i64 (i : Int) ∧ ∃ M n, n ≤ i ∧ Tab2 w wr p q M n (fun _ => none) 0)
  case atStart => exact ⟨0, rfl, rfl, _, 0, Nat.le_refl _, H2.out⟩
  case round =>
    obtain ⟨i, hmi, rfl, M, n, hni, hT⟩ := hrel
    have HMI := Lib.hid hmi; have HT := Lib.hid hT; clear hmi hT
    by_cases hlt : i < ks.length
    · obtain ⟨x, hx⟩ : ∃ x, ks[i]? = some x := ⟨ks[i], List.getElem?_eq_getElem hlt⟩
      obtain ⟨b, off, rfl, hb, k0, k1, k2⟩ := hc.key hx
      rw [← HT.out.bel.cell (p := ⟨_, _, none⟩) hb] at k0 k1 k2
      clear hx
      go_wp2_with fail
      refine (t2put w _ p q M n _ 0 x (i : Int) HT.out (by omega)).mono ?_
      rintro e w3 ⟨rfl, hT3, _⟩
      clear k0 k1 k2
      have HT3 := Lib.hid hT3; clear hT3
      go_wp2_with fail
      go_roundg (ks.length - (i + 1))
      case measure => have := HMI.out; omega
      case rel => exact ⟨i + 1, by omega, by go_num, _, _, by split <;> omega, HT3.out⟩
    · have hge : ks.length ≤ i := by omega
      go_wp2_with fail
      refine (t2clear w _ p q M n _ 0 HT.out).mono ?_
      rintro e w3 ⟨rfl, hT3⟩
      have HT3 := Lib.hid hT3; clear hT3
      go_wp2_with fail
      refine (t2len w _ p q _ _ _ _ HT3.out).mono ?_
      rintro e w3 ⟨rfl, rfl⟩
      go_wp2_with fail
      clear HT HMI
      go_loopg [8] ls.length (fun m x wr => ∃ i : Nat, m + i = ls.length ∧ x = .int .i64 (i : Int) ∧ ∃ M n, n ≤ i ∧ Tab2 w wr p q M n M n)
      case atStart => exact ⟨0, rfl, rfl, _, 0, Nat.le_refl _, HT3.out⟩
      case round =>
        obtain ⟨j, hmj, rfl, M, n, hnj, hT⟩ := hrel
        have HMI := Lib.hid hmj; have HT := Lib.hid hT; clear hmj hT
        by_cases hlt : j < ls.length
        · obtain ⟨x, hx⟩ : ∃ x, ls[j]? = some x := ⟨ls[j], List.getElem?_eq_getElem hlt⟩
          obtain ⟨b, off, rfl, hb, k0, k1, k2⟩ := hd.key hx
          have K0 := Lib.hid k0; have K1 := Lib.hid k1; have K2 := Lib.hid k2; clear k0 k1 k2
          have c0 := (HT.out.bel.cell (p := ⟨_, _, none⟩) hb).trans K0.out
          have c1 := (HT.out.bel.cell (p := ⟨_, _, none⟩) hb).trans K1.out
          have c2 := (HT.out.bel.cell (p := ⟨_, _, none⟩) hb).trans K2.out
          clear hx
          go_wp2_with fail
          refine (t2put w _ p q M n M n x (j : Int) HT.out (by omega)).mono ?_
          rintro e w3 ⟨rfl, hT3, _⟩
          clear c0 c1 c2
          have c0 := (hT3.bel.cell (p := ⟨_, _, none⟩) hb).trans K0.out
          have c1 := (hT3.bel.cell (p := ⟨_, _, none⟩) hb).trans K1.out
          have c2 := (hT3.bel.cell (p := ⟨_, _, none⟩) hb).trans K2.out
          have HT3 := Lib.hid hT3; clear hT3
          go_wp2_with fail
          refine (t2putB w _ p q _ _ M n x (j : Int) HT3.out (by omega)).mono ?_
          rintro e w4 ⟨rfl, hT4, _⟩
          clear c0 c1 c2
          have HT4 := Lib.hid hT4; clear hT4
          go_wp2_with fail
          go_roundg (ls.length - (j + 1))
          case measure => have := HMI.out; omega
          case rel => exact ⟨j + 1, by omega, by go_num, _, _, by split <;> omega, HT4.out⟩
        · have hge2 : ls.length ≤ j := by omega
          go_wp2_with fail
          go_loopg [9] (ks.length + ls.length) (fun m x wr => ∃ i : Nat, m + i = ks.length + ls.length ∧ x = .int .i64 (i : Int) ∧ Tab2 w wr p q M n M n)
          case atStart => exact ⟨0, rfl, rfl, HT.out⟩
          case round =>
            obtain ⟨k, hmk, rfl, hT⟩ := hrel
            clear HT HMI
            have HMI := Lib.hid hmk; have HT := Lib.hid hT; clear hmk hT
            by_cases hlt : k < ks.length + ls.length
            · by_cases hka : k < ks.length
              case' pos =>
                obtain ⟨x, hx⟩ : ∃ x, ks[k]? = some x := ⟨ks[k], List.getElem?_eq_getElem hka⟩
                obtain ⟨b, off, rfl, hb, k0, k1, k2⟩ := hc.key hx
              case' neg =>
                obtain ⟨x, hx⟩ : ∃ x, ls[k - ks.length]? = some x := ⟨ls[k - ks.length], List.getElem?_eq_getElem (by omega)⟩
                obtain ⟨b, off, rfl, hb, k0, k1, k2⟩ := hd.key hx
                have hki : ((k : Int) - (ks.length : Int)).toNat = k - ks.length := by omega
              all_goals
                have hbw : b < wr.heap.size := by have := HT.out.bel.size; omega
                rw [← HT.out.bel.cell (p := ⟨_, _, none⟩) hb] at k0 k1 k2
                clear hx
                go_wp2_with fail
                have hTA := HT.out.below ((Below.refl wr.heap.size wr).alloc (Nat.le_refl _) (.cells #[.int .i64 x.1, .int .i64 x.2.1, .int .i64 x.2.2] 26))
                have hBK := Blk.new_ wr 26 #[.int .i64 x.1, .int .i64 x.2.1, .int .i64 x.2.2]
                refine (t2get w _ p q _ _ _ _ x hTA).mono ?_
                rintro e w3 ⟨rfl, hT3, hb3⟩
                have hBK3 := hBK.below hb3 (by simp)
                have y0 := hBK3.cell 0
                have y1 := hBK3.cell 1
                have y2 := hBK3.cell 2
                simp only [List.getElem?_toArray, List.getElem?_cons_zero, List.getElem?_cons_succ] at y0 y1 y2
                clear k0 k1 k2 hBK hBK3 hTA hb3
                have HT3 := Lib.hid hT3; clear hT3
                go_wp2_with fail
                refine (t2getB w _ p q _ _ _ _ x HT3.out).mono ?_
                rintro e w4 ⟨rfl, hT4, _⟩
                clear y0 y1 y2
                have HT4 := Lib.hid hT4; clear hT4
                go_wp2_with fail
                go_roundg (ks.length + ls.length - (k + 1))
                case measure => have := HMI.out; omega
                case rel => exact ⟨k + 1, by omega, by go_num, HT4.out⟩
            · have hge3 : ks.length + ls.length ≤ k := by omega
              go_wp2_with fail
              refine (t2len w _ p q _ _ _ _ HT.out).mono ?_
              rintro e w3 ⟨rfl, rfl⟩
              go_wp2_with fail
              refine (t2lenB w _ p q _ _ _ _ HT.out).mono ?_
              rintro e w3 ⟨rfl, rfl⟩
              go_wp2_with fail
              refine (awake02 _).mono ?_
              rintro e w5 ⟨rfl, h5⟩
              go_wp2_with fail
              go_ret
              exact ⟨rfl, HT.out.bel.trans (h5.mono HT.out.bel.size)⟩
end Go.Proofs.Ytdalnhhenahcjaa

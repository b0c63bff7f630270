/- The reference of layer 19: the least node of each component (least). -/
import Derived.Test.YtbancojknahdgaaCompV
namespace Go.Proofs.Ytbancojknahdgaa
open Go.RowKit CP
theorem brow_info : (Try.prog.info? 79).map (fun i => (i.zero, i.size, i.bytes)) = some (some (.slice none 0 0), 1, 24) := by kernel_rfl
theorem int_infoR : (Try.prog.info? 3).map (fun i => (i.zero, i.size, i.bytes)) = some (some (.int .i64 0), 1, 8) := by kernel_rfl
/-- the marks of the first nodes in memory -/
structure AL (w1 wr : World) (n ga i : Nat) (E : Ed) (sl : Nat → Value) : Prop where
  bel : Below w1.heap.size w1 wr
  blk : Blk wr ga 79 (tabV n sl)
  gaB : w1.heap.size ≤ ga
  rows : ∀ j, j < i → ∃ b, sl j = .slice (some ⟨b, 0, none⟩) n n ∧ Blk wr b 4 (tabB n (rcB E j))
theorem AL.below {w1 wr w' : World} {n ga i : Nat} {E : Ed} {sl : Nat → Value} (h : AL w1 wr n ga i E sl) (hb : Below wr.heap.size wr w') : AL w1 w' n ga i E sl :=
  ⟨h.bel.trans (hb.mono h.bel.size), h.blk.below hb h.blk.lt, h.gaB, fun j hj => by
    obtain ⟨b, e, hk⟩ := h.rows j hj
    exact ⟨b, e, hk.below hb hk.lt⟩⟩
theorem AL.store {w1 wr : World} {n ga i : Nat} {E : Ed} {sl : Nat → Value} (h : AL w1 wr n ga i E sl) (hi : i < n) {b : Nat} (hb : Blk wr b 4 (tabB n (rcB E i))) :
    AL w1 (wr.setCell ⟨ga, i, none⟩ (.slice (some ⟨b, 0, none⟩) n n)) n ga (i + 1) E (fup sl i (.slice (some ⟨b, 0, none⟩) n n)) := by
  refine ⟨h.bel.setCell h.gaB _, by have := h.blk.set_ i (.slice (some ⟨b, 0, none⟩) n n); rw [tabV_set _ hi] at this; exact this, h.gaB, fun j hj => ?_⟩
  by_cases e : j = i
  · subst e
    exact ⟨b, fup_same _ _ _, hb.far (Blk.ne hb h.blk (by decide)) _⟩
  · obtain ⟨b2, e2, hk⟩ := h.rows j (by omega)
    exact ⟨b2, by rw [fup_ne _ _ e]; exact e2, hk.far (Blk.ne hk h.blk (by decide)) _⟩
/-- a store into a block of ints leaves the marks -/
theorem AL.int {w1 wr : World} {n ga i : Nat} {E : Ed} {sl : Nat → Value} (h : AL w1 wr n ga i E sl) {bo : Nat} {cs : Array Value} (hk : Blk wr bo 3 cs) (hB : w1.heap.size ≤ bo) (j : Nat) (u : Value) : AL w1 (wr.setCell ⟨bo, j, none⟩ u) n ga i E sl :=
  ⟨h.bel.setCell hB _, h.blk.far (Blk.ne h.blk hk (by decide)) _, h.gaB, fun j hj => by
    obtain ⟨b, e, hb⟩ := h.rows j hj
    exact ⟨b, e, hb.far (Blk.ne hb hk (by decide)) _⟩⟩
set_option maxRecDepth 100000 in
set_option maxHeartbeats 6400000 in
theorem least_ok (w : World) (n : Nat) (ea : Option Addr) (es : List (Int × Int)) (c : Nat) (hn : n ≤ 1024) (hm : es.length ≤ 16384) (hall : es.all (edZ (n : Int)) = true) (hc : Cells w ea (es.flatMap pairCells)) :
    Calls Try.prog 54 #[.int .i64 (n : Int), .slice ea es.length c] w fun e w' => Below w.heap.size w w' ∧ ∃ b, e = .returned (.slice (some ⟨b, 0, none⟩) n n) ∧ w.heap.size ≤ b ∧ Blk w' b 3 (tabI n (ls (natE es))) := by
  obtain ⟨N, hN⟩ : ∃ N, es.length = N := ⟨_, rfl⟩
  have HC := Lib.hid hc
  have HMK : Hid (∀ w' (f : Nat), f < n → Cells w' ea (es.flatMap pairCells) → Calls Try.prog 56 #[.int .i64 (n : Int), .slice ea N c, .int .i64 (f : Int)] w' fun e w2 => Below w'.heap.size w' w2 ∧ ∃ b, e = .returned (.slice (some ⟨b, 0, none⟩) n n) ∧ w'.heap.size ≤ b ∧ Blk w2 b 4 (tabB n (rcB (natE es) f))) :=
    Lib.hid (fun w' f hf hc' => by rw [← hN]; exact marks_ok w' n f ea es c hn hf hm hall hc')
  rw [hN]
  obtain ⟨E, hE⟩ : ∃ E, natE es = E := ⟨_, rfl⟩
  rw [hE] at HMK ⊢
  obtain ⟨i0, hi0, hz0, hz1, hz2⟩ := info_parts brow_info
  have hm1 := run_make_n (P := Try.prog) 95 79 i0 (.slice none 0 0) 1 24 Try.underlying95 hi0 hz0 hz1 hz2 .i64 .i64 n n (Nat.le_refl _) (by omega) (by omega)
  rw [show madeCells (Value.slice none 0 0).cells (n * 1) = tabV n fun _ => .slice none 0 0 from made_rep n _] at hm1
  obtain ⟨i1, hi1, yz0, yz1, yz2⟩ := info_parts int_infoR
  have hm2 := run_make_n (P := Try.prog) 25 3 i1 (.int .i64 0) 1 8 Try.underlying25 hi1 yz0 yz1 yz2 .i64 .i64 n n (Nat.le_refl _) (by omega) (by omega)
  rw [show madeCells (Value.int .i64 0).cells (n * 1) = tabI n fun _ => 0 from made_rep n _] at hm2
  clear hN hc hall hi0 hz0 hz1 hz2 hi1 yz0 yz1 yz2 hE hm
  go_enter Try.func54, Try.ntmps54
  go_wp2_with fail
  obtain ⟨ga, hga⟩ : ∃ ga, ga = w.heap.size := ⟨_, rfl⟩
  obtain ⟨w2, hw2⟩ : ∃ w2, w2 = w.alloc (.cells (tabV n fun _ => .slice none 0 0) 79) := ⟨_, rfl⟩
  have hAL : AL w w2 n ga 0 E (fun _ => .slice none 0 0) := by
    rw [hw2, hga]
    exact ⟨(Below.refl _ _).alloc (Nat.le_refl _) _, Blk.new_ _ _ _, Nat.le_refl _, fun j hj => absurd hj (Nat.not_lt_zero _)⟩
  rw [← hw2]
  try rw [← hga]
  have HAL := Lib.hid hAL
  clear hAL hw2 hga hm1
  go_loopg [6] n (fun m x wr => ∃ i sl, m + i = n ∧ x = .int .i64 (i : Int) ∧ AL w wr n ga i E sl)
  case atStart => exact ⟨0, _, rfl, rfl, HAL.out⟩
  case round =>
    obtain ⟨i, sl, hm3, rfl, hal⟩ := hrel
    have HM := Lib.hid hm3; have HAL2 := Lib.hid hal
    clear hm3 hal HAL
    by_cases hi : i < n
    · have HMI := Lib.hid (HMK.out wr i hi (HC.out.below HAL2.out.bel))
      go_wp2_with fail
      refine HMI.out.mono ?_
      rintro e w3 ⟨hb3, b, rfl, hbl, hbk⟩
      have HAL3 := HAL2.out.below hb3
      have o1 := (HAL3.blk.cell i).trans (tabV_get _ hi)
      have fo := HAL3.blk.frozen i
      have ol := HAL3.blk.lt
      have HAL4 := Lib.hid (HAL3.store hi hbk)
      clear hb3 hbk hbl HAL3 HAL2 HMI
      go_wp2_with fail
      go_roundg (n - (i + 1))
      case measure => have := HM.out; omega
      case rel => exact ⟨i + 1, _, by have := HM.out; omega, by go_num, HAL4.out⟩
    · have hin : i = n := by have := HM.out; omega
      subst hin
      clear hi HM
      obtain ⟨w5, hw5⟩ : ∃ w5, w5 = wr := ⟨_, rfl⟩
      rw [← hw5] at HAL2 ⊢
      clear hw5
      go_wp2_with fail
      obtain ⟨bo, hbo⟩ : ∃ bo, bo = w5.heap.size := ⟨_, rfl⟩
      obtain ⟨w6, hw6⟩ : ∃ w6, w6 = w5.alloc (.cells (tabI i fun _ => 0) 3) := ⟨_, rfl⟩
      have hAL6 : AL w w6 i ga i E sl := by rw [hw6]; exact HAL2.out.below ((Below.refl _ _).alloc (Nat.le_refl _) _)
      have hk6 : Blk w6 bo 3 (tabI i fun _ => 0) := by rw [hw6, hbo]; exact Blk.new_ _ _ _
      have hboB : w.heap.size ≤ bo := by rw [hbo]; exact HAL2.out.bel.size
      rw [← hw6]
      try rw [← hbo]
      have HAL6 := Lib.hid hAL6; have HK6 := Lib.hid hk6
      clear hAL6 hk6 hw6 hbo hm2 HAL2
      go_loopg [8] i (fun m x wr => ∃ q f, m + q = i ∧ x = .int .i64 (q : Int) ∧ AL w wr i ga i E sl ∧ Blk wr bo 3 (tabI i f) ∧ ∀ j, j < q → f j = ls E j)
      case atStart => exact ⟨0, _, rfl, rfl, HAL6.out, HK6.out, fun j hj => absurd hj (Nat.not_lt_zero _)⟩
      case round =>
        obtain ⟨q, f, hm4, rfl, hal, hk, hf⟩ := hrel
        have HM4 := Lib.hid hm4; have HAL7 := Lib.hid hal; have HF := Lib.hid hf; have HK := Lib.hid hk
        clear hm4 hal hf HAL6 HK6
        by_cases hq : q < i
        · have o1 := (hk.cell q).trans (tabI_get _ hq)
          have fo := hk.frozen q
          have ol := hk.lt
          have hk8 : Blk (wr.setCell ⟨bo, q, none⟩ (.int .i64 (q : Int))) bo 3 (tabI i (fup f q q)) := by have := hk.set_ q (.int .i64 (q : Int)); rw [tabI_set _ hq] at this; exact this
          have HK8 := Lib.hid hk8
          have HAL8 := Lib.hid (HAL7.out.int hk hboB q (.int .i64 (q : Int)))
          clear hk hk8 HK HAL7
          go_wp2_with fail
          go_loopg [9] q (fun m x wr => ∃ d g, m + d = q ∧ x = .int .i64 ((q : Int) - 1 - (d : Int)) ∧ AL w wr i ga i E sl ∧ Blk wr bo 3 (tabI i g) ∧ g q = lsD E q d ∧ ∀ j, j < q → g j = f j)
          case atStart => exact ⟨0, _, rfl, by first | rfl | go_num, HAL8.out, HK8.out, fup_same _ _ _, fun j hj => fup_ne _ _ (by omega)⟩
          case round =>
            obtain ⟨d, g, hm5, rfl, hal, hk, hg, hgf⟩ := hrel
            have HM5 := Lib.hid hm5; have HAL9 := Lib.hid hal; have HG := Lib.hid hg; have HGF := Lib.hid hgf; have HK := Lib.hid hk
            have o1 := (hk.cell q).trans (tabI_get _ hq)
            have fo := hk.frozen q
            have ol := hk.lt
            clear hm5 hal hk hg hgf HAL8 HK8
            by_cases hd : d < q
            · obtain ⟨k, hk⟩ : ∃ k, k = q - 1 - d := ⟨_, rfl⟩
              have hkq : k < q := by omega
              have e1 : (q : Int) - 1 - (d : Int) = (k : Int) := by omega
              rw [e1]
              have hki : k < i := by omega
              obtain ⟨b1, eb1, hb1⟩ := HAL9.out.rows q hq
              obtain ⟨b2, eb2, hb2⟩ := HAL9.out.rows k hki
              have p1 := (HAL9.out.blk.cell q).trans (tabV_get _ hq)
              have p2 := (HAL9.out.blk.cell k).trans (tabV_get _ hki)
              rw [eb1] at p1
              rw [eb2] at p2
              have p3 := (hb1.cell k).trans (tabB_get _ hki)
              have p4 := (hb2.cell q).trans (tabB_get _ hq)
              have hstep : lsD E q (d + 1) = if rcB E q k && rcB E k q then k else lsD E q d := by
                show (if both E q (q - 1 - d) then q - 1 - d else _) = _
                rw [← hk, both_rcs]
              obtain ⟨X, hX⟩ : ∃ X, rcB E q k = X := ⟨_, rfl⟩
              obtain ⟨Y, hY⟩ : ∃ Y, rcB E k q = Y := ⟨_, rfl⟩
              rw [hX] at p3 hstep
              rw [hY] at p4 hstep
              have HST := Lib.hid hstep; have HKD : Hid ((k : Int) - 1 = (q : Int) - 1 - ((d + 1 : Nat) : Int)) := Lib.hid (by omega)
              clear hX hY hstep eb1 eb2 hb1 hb2 hk e1
              cases X with
              | false =>
                go_wp2_with fail
                go_roundg (q - (d + 1))
                case measure => have := HM5.out; omega
                case rel => exact ⟨d + 1, g, by have := HM5.out; omega, by rw [← HKD.out], HAL9.out, HK.out, by rw [HST.out]; exact HG.out, HGF.out⟩
              | true =>
                cases Y with
                | false =>
                  go_wp2_with fail
                  go_roundg (q - (d + 1))
                  case measure => have := HM5.out; omega
                  case rel => exact ⟨d + 1, g, by have := HM5.out; omega, by rw [← HKD.out], HAL9.out, HK.out, by rw [HST.out]; exact HG.out, HGF.out⟩
                | true =>
                  have HK10 : Hid (Blk (wr.setCell ⟨bo, q, none⟩ (.int .i64 (k : Int))) bo 3 (tabI i (fup g q k))) := Lib.hid (by have := HK.out.set_ q (.int .i64 (k : Int)); rw [tabI_set _ hq] at this; exact this)
                  have HAL10 := Lib.hid (HAL9.out.int HK.out hboB q (.int .i64 (k : Int)))
                  go_wp2_with fail
                  go_roundg (q - (d + 1))
                  case measure => have := HM5.out; omega
                  case rel => exact ⟨d + 1, _, by have := HM5.out; omega, by rw [← HKD.out], HAL10.out, HK10.out, by rw [HST.out, fup_same]; rfl, fun j hj => by rw [fup_ne _ _ (by omega)]; exact HGF.out j hj⟩
            · have hdq : d = q := by have := HM5.out; omega
              have e1 : (q : Int) - 1 - (d : Int) = -1 := by omega
              rw [e1]
              have HG2 : Hid (g q = ls E q) := Lib.hid (by rw [HG.out, hdq]; rfl)
              clear e1
              go_wp2_with fail
              go_roundg (i - (q + 1))
              case measure => have := HM4.out; omega
              case rel => exact ⟨q + 1, g, by have := HM4.out; omega, by go_num, HAL9.out, HK.out, fun j hj => by
                by_cases e : j = q
                · rw [e]; exact HG2.out
                · rw [HGF.out j (by omega), HF.out j (by omega)]⟩
        · have hqi : q = i := by have := HM4.out; omega
          have hfin : Blk wr bo 3 (tabI i (ls E)) := by
            have e : tabI i f = tabI i (ls E) := by
              unfold tabI tabV
              congr 1
              exact List.map_congr_left fun j hj => by rw [HF.out j (by rw [hqi]; exact List.mem_range.1 hj)]
            rw [← e]; exact HK.out
          have HFIN := Lib.hid hfin
          clear hk hfin
          go_wp2_with fail
          go_ret
          exact ⟨HAL7.out.bel, bo, rfl, hboB, HFIN.out⟩
end Go.Proofs.Ytbancojknahdgaa

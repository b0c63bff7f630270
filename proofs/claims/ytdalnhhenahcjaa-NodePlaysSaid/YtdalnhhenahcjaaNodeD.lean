/- Mk (layer 3): refused, or of what is there. -/
import Derived.Test.YtdalnhhenahcjaaNodeC
namespace Go.Proofs.Ytdalnhhenahcjaa
open Go.RowKit HP NP
theorem bdN' (w : World) (n : Nat) : Below w.heap.size w (w.drewN n) := ⟨rfl, rfl, rfl, Nat.le_refl _, fun _ _ => rfl⟩
theorem ngivenQ (w : World) (B p : Nat) (S : NS) (h : Sto w B p S) (n : Nat) : Calls Try.prog 50 #[.pointer (some ⟨p, 0, none⟩)] (w.drewN n) fun e w' => e = .returned (.bool true) ∧ w' = w.drewN n :=
  (ngiven_ok (w.drewN n) B p S (h.below (bdN' w n))).mono fun _ _ ⟨he, hw⟩ => ⟨he, hw.symm⟩
theorem nfindQ (w : World) (B p : Nat) (S : NS) (h : Sto w B p S) (k x : Int) (hx : findE S k = x) (n : Nat) : Calls Try.prog 48 #[.pointer (some ⟨p, 0, none⟩), .int .i64 k] (w.drewN n) fun e w' => e = .returned (.int .i64 x) ∧ w' = w.drewN n :=
  (nfind_ok (w.drewN n) B p S (h.below (bdN' w n)) k).mono fun _ _ ⟨he, hw⟩ => ⟨by rw [he, hx], hw.symm⟩
set_option maxRecDepth 100000 in
set_option maxHeartbeats 4000000 in
theorem nmk_no (w : World) (B p : Nat) (S : NS) (h : Sto w B p S) (v low high : Int) (hno : okMk S v low high = false) :
    Calls Try.prog 33 #[.pointer (some ⟨p, 0, none⟩), .int .i64 v, .int .i64 low, .int .i64 high] w fun e w' => e = .returned (.tuple #[.int .i64 0, .int .i64 1]) ∧ ∃ n, w' = w.drewN n := by
  have HG := Lib.hid (fun n => ngivenQ w B p S h n)
  have HLx := Lib.hid (fun x hx n => nfindQ w B p S h low x hx n)
  have HHx := Lib.hid (fun x hx n => nfindQ w B p S h high x hx n)
  obtain ⟨g, q, cap, fa, fc, M, h⟩ := h
  have c0 : w.cell? ⟨p, 0, none⟩ = some (.int .i64 (S.vars : Int)) := h.tab.cell 0
  have c2 : w.cell? ⟨p, 2, none⟩ = some (.slice (some ⟨g, 0, none⟩) S.l.length cap) := h.tab.cell 2
  have hlm := h.wf.lm
  have H := Lib.hid h
  clear h
  have HNO := Lib.hid hno
  clear hno
  by_cases h1 : v < 0
  · have d1 : decide (v < 0) = true := decide_eq_true h1
    clear h1
    have HL := HG; have HH := HG
    go_enter Try.func33, Try.ntmps33
    go_wp2_with fail
    go_quiet ((first | (go_at_call 50; with_reducible exact Calls.quiet_of_same (HG.out _)) | (go_at_call 48; with_reducible exact Calls.quiet_of_same (HL.out _)) | (go_at_call 48; with_reducible exact Calls.quiet_of_same (HH.out _))))
    go_wp2_with fail
    go_ret2
    exact ⟨rfl, _, rfl⟩
  have d1 : decide (v < 0) = false := decide_eq_false h1
  by_cases h2 : (S.vars : Int) ≤ v
  · have d2 : decide ((S.vars : Int) ≤ v) = true := decide_eq_true h2
    clear h1 h2
    have HL := HG; have HH := HG
    go_enter Try.func33, Try.ntmps33
    go_wp2_with fail
    go_quiet ((first | (go_at_call 50; with_reducible exact Calls.quiet_of_same (HG.out _)) | (go_at_call 48; with_reducible exact Calls.quiet_of_same (HL.out _)) | (go_at_call 48; with_reducible exact Calls.quiet_of_same (HH.out _))))
    go_wp2_with fail
    go_ret2
    exact ⟨rfl, _, rfl⟩
  have d2 : decide ((S.vars : Int) ≤ v) = false := decide_eq_false h2
  cases hl : isK S.l low with
  | false =>
    have HL := Lib.hid (HLx.out 3 (by unfold findE; rw [hl]; rfl))
    have HH := HG
    clear h1 h2 hl
    go_enter Try.func33, Try.ntmps33
    go_wp2_with fail
    go_quiet ((first | (go_at_call 50; with_reducible exact Calls.quiet_of_same (HG.out _)) | (go_at_call 48; with_reducible exact Calls.quiet_of_same (HL.out _)) | (go_at_call 48; with_reducible exact Calls.quiet_of_same (HH.out _))))
    go_wp2_with fail
    go_ret2
    exact ⟨rfl, _, rfl⟩
  | true =>
    have HL := Lib.hid (HLx.out 0 (by unfold findE; rw [hl]; rfl))
    cases hh : isK S.l high with
    | false =>
      have HH := Lib.hid (HHx.out 3 (by unfold findE; rw [hh]; rfl))
      clear h1 h2 hl hh
      go_enter Try.func33, Try.ntmps33
      go_wp2_with fail
      go_quiet ((first | (go_at_call 50; with_reducible exact Calls.quiet_of_same (HG.out _)) | (go_at_call 48; with_reducible exact Calls.quiet_of_same (HL.out _)) | (go_at_call 48; with_reducible exact Calls.quiet_of_same (HH.out _))))
      go_wp2_with fail
      go_ret2
      exact ⟨rfl, _, rfl⟩
    | true =>
      have HH := Lib.hid (HHx.out 0 (by unfold findE; rw [hh]; rfl))
      obtain ⟨lo, rfl, hbl⟩ := isK_out hl
      obtain ⟨hi, rfl, hbh⟩ := isK_out hh
      obtain ⟨gl, _, lv, _⟩ := H.out.nd_ (isB_lt hbl)
      obtain ⟨_, _, hv, _⟩ := H.out.nd_ (isB_lt hbh)
      have b1 := isB_lt hbl
      have b2 := isB_lt hbh
      obtain ⟨x, hx⟩ : ∃ x, x = (nd S.l lo).v := ⟨_, rfl⟩
      obtain ⟨y, hy⟩ : ∃ y, y = (nd S.l hi).v := ⟨_, rfl⟩
      have hmin : min (x : Int) (y : Int) ≤ v := by
        have := HNO.out
        unfold okMk at this
        rw [hl, hh, Int.toNat_natCast, Int.toNat_natCast, ← hx, ← hy] at this
        simp at this
        omega
      rw [← hx] at lv
      rw [← hy] at hv
      have hm2 : (y < x ∧ (y : Int) ≤ v) ∨ (x ≤ y ∧ (x : Int) ≤ v) := by omega
      clear h1 h2 hl hh hbl hbh hx hy hmin
      rcases hm2 with ⟨hxv, hyv⟩ | ⟨hxv, hyv⟩
      all_goals
        go_enter Try.func33, Try.ntmps33
        go_wp2_with fail
        go_quiet ((first | (go_at_call 50; with_reducible exact Calls.quiet_of_same (HG.out _)) | (go_at_call 48; with_reducible exact Calls.quiet_of_same (HL.out _)) | (go_at_call 48; with_reducible exact Calls.quiet_of_same (HH.out _))))
        go_wp2_with fail
        go_ret2
        exact ⟨rfl, _, rfl⟩
end Go.Proofs.Ytdalnhhenahcjaa

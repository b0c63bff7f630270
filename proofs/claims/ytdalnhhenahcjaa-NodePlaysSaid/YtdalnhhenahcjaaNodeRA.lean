/- The reference's store (osierref03): is, Len, many, Ask, New by contracts over the same nodes (NS). -/
import Derived.Test.YtdalnhhenahcjaaNodeL5
namespace Go.Proofs.Ytdalnhhenahcjaa
open Go.RowKit HP NP
/-- the reference's store as a value -/
abbrev rsV (S : NS) (ra : Option Addr) (rc : Nat) : Value := .agg #[.int .i64 (S.vars : Int), .int .i64 (S.budget : Int), .int .i64 (wr64 S.made), .int .i64 (wr64 S.sweeps), .slice ra S.l.length rc]
/-- the nodes of the reference's store lie in memory -/
structure RSt (w : World) (S : NS) (ra : Option Addr) (rc : Nat) : Prop where
  cells : Cells w ra (S.l.flatMap ndCells)
  tb : TB w ra 107
  cap : S.l.length ≤ rc ∧ rc ≤ maxLen
theorem RSt.kb {T : TypeId → Bool} {w w' : World} {S : NS} {ra : Option Addr} {rc : Nat} (h : RSt w S ra rc) (hk : Kb T w w') (ht : T 107 = false) : RSt w' S ra rc := ⟨h.cells.kb h.tb hk ht, h.tb.kb hk ht, h.cap⟩
theorem RSt.below {w w' : World} {S : NS} {ra : Option Addr} {rc : Nat} (h : RSt w S ra rc) (hb : Below w.heap.size w w') : RSt w' S ra rc := h.kb (T := fun _ => false) (Kp.of_below (B := 0) hb).kb rfl
/-- a node's cells -/
theorem RSt.nd_ {w : World} {S : NS} {ra : Option Addr} {rc : Nat} (h : RSt w S ra rc) {k : Nat} (hk : k < S.l.length) :
    ∃ b off, ra = some ⟨b, off, none⟩ ∧ b < w.heap.size ∧ w.cell? ⟨b, off + k * 5, none⟩ = some (.bool (nd S.l k).is) ∧ w.cell? ⟨b, off + k * 5 + 1, none⟩ = some (.int .i64 ((nd S.l k).v : Int)) ∧ w.cell? ⟨b, off + k * 5 + 2, none⟩ = some (.int .i64 ((nd S.l k).low : Int)) ∧ w.cell? ⟨b, off + k * 5 + 3, none⟩ = some (.int .i64 ((nd S.l k).high : Int)) ∧ w.cell? ⟨b, off + k * 5 + 4, none⟩ = some (.int .i64 ((nd S.l k).pins : Int)) := by
  have g := fun j v hj => flat_get ndCells 5 (fun _ => rfl) S.l k j (nd S.l k) v (nd_lt hk) hj
  have h0 := g 0 _ rfl
  have h1 := g 1 _ rfl
  have h2 := g 2 _ rfl
  have h3 := g 3 _ rfl
  have h4 := g 4 _ rfl
  obtain ⟨b, off, e, hb, hh⟩ := h.cells (by rintro e; rw [e] at h0; simp at h0)
  exact ⟨b, off, e, hb, by simpa using hh _ _ h0, by simpa [Nat.add_assoc] using hh _ _ h1, by simpa [Nat.add_assoc] using hh _ _ h2, by simpa [Nat.add_assoc] using hh _ _ h3, by simpa [Nat.add_assoc] using hh _ _ h4⟩
set_option maxHeartbeats 1000000 in
theorem ris_ok (w : World) (S : NS) (_hlm : S.l.length ≤ 1048576) (ra : Option Addr) (rc : Nat) (h : RSt w S ra rc) (k : Int) : Calls Try.prog 64 #[rsV S ra rc, .int .i64 k] w fun e w' => e = .returned (.bool (isK S.l k)) ∧ Below w.heap.size w w' := by
  by_cases h0 : k < 0
  · have hi := isK_neg (l := S.l) h0
    have HI := Lib.hid hi
    have d1 : decide (0 ≤ k) = false := decide_eq_false (by omega)
    clear h0 hi h
    go_enter Try.func64, Try.ntmps64
    go_wp2_with fail
    go_ret
    exact ⟨ret_bool (by rw [HI.out]), (Below.refl _ _).alloc (Nat.le_refl _) _⟩
  · obtain ⟨m, rfl⟩ : ∃ m : Nat, k = (m : Int) := ⟨k.toNat, by omega⟩
    have hik := isK_nat (l := S.l) (k := m)
    have HIK := Lib.hid hik
    clear hik h0
    by_cases hm : m < S.l.length
    · obtain ⟨b, off, rfl, hb, x0, _⟩ := h.nd_ hm
      obtain ⟨q, hq⟩ : ∃ q, q = (nd S.l m).is := ⟨_, rfl⟩
      rw [← hq] at x0
      have HQ := Lib.hid hq
      clear hq h
      go_enter Try.func64, Try.ntmps64
      go_wp2_with fail
      go_ret
      exact ⟨ret_bool (by rw [HIK.out]; unfold isB; rw [← HQ.out]), (Below.refl _ _).alloc (Nat.le_refl _) _⟩
    · have hge : S.l.length ≤ m := by omega
      clear hm h
      go_enter Try.func64, Try.ntmps64
      go_wp2_with fail
      go_ret
      exact ⟨ret_bool (by rw [HIK.out]; unfold isB; rw [nd_ge hge]; rfl), (Below.refl _ _).alloc (Nat.le_refl _) _⟩
theorem cnt_take (l : List Nd) (k : Nat) (hk : k < l.length) : cnt (l.take (k + 1)) = cnt (l.take k) + (nd l k).is.toNat := by
  have e : l.take (k + 1) = l.take k ++ [nd l k] := by rw [List.take_add_one, nd_lt hk]; rfl
  rw [e]; unfold cnt; rw [List.countP_append]
  cases h : (nd l k).is <;> simp [h]
set_option maxRecDepth 100000 in
set_option maxHeartbeats 1000000 in
theorem rlen_ok (w : World) (S : NS) (hlm : S.l.length ≤ 1048576) (ra : Option Addr) (rc : Nat) (h : RSt w S ra rc) : Calls Try.prog 42 #[rsV S ra rc] w fun e w' => e = .returned (.int .i64 (cnt S.l : Int)) ∧ Below w.heap.size w w' := by
  obtain ⟨N, hN⟩ : ∃ N, N = S.l.length := ⟨_, rfl⟩
  have HN := Lib.hid hN
  rw [← hN] at hlm
  have HR := Lib.hid h
  have hbox : ∀ (w0 : World), Blk (w0.alloc (.cells #[.int .i64 (S.vars : Int), .int .i64 (S.budget : Int), .int .i64 (wr64 S.made), .int .i64 (wr64 S.sweeps), .slice ra S.l.length rc] 75)) w0.heap.size 75 _ := fun w0 => Blk.new_ _ _ _
  have hb4 := (hbox w).cell 4
  have hbl := (hbox w).lt
  rw [← hN] at hb4
  simp at hb4
  clear h hN hbox
  go_enter Try.func42, Try.ntmps42
  go_wp2_with fail
  rw [← HN.out]
  go_loopg [3, 4] N (fun m y x wr => ∃ k : Nat, m + k = N ∧ x = .int .i64 (k : Int) ∧ y = .int .i64 (cnt (S.l.take k) : Int) ∧ wr = w.alloc (.cells #[.int .i64 (S.vars : Int), .int .i64 (S.budget : Int), .int .i64 (wr64 S.made), .int .i64 (wr64 S.sweeps), .slice ra N rc] 75))
  case atStart => exact ⟨0, rfl, rfl, rfl, rfl⟩
  case round =>
    obtain ⟨k, hm, rfl, rfl, rfl⟩ := hrel
    have HM := Lib.hid hm
    clear hm
    by_cases hk : k < N
    · have hkl : k < S.l.length := by rw [← HN.out]; exact hk
      obtain ⟨b, off, rfl, hb, x0, _⟩ := HR.out.nd_ hkl
      have hct := cnt_take S.l k hkl
      have hcb : cnt (S.l.take k) ≤ 1048576 := by have := cnt_le (S.l.take k); rw [List.length_take] at this; omega
      obtain ⟨q, hq⟩ : ∃ q, q = (nd S.l k).is := ⟨_, rfl⟩
      rw [← hq] at x0 hct
      have HCT := Lib.hid hct
      clear hct hq
      cases q
      all_goals
        go_wp2_with fail
        go_roundg (N - (k + 1))
        case measure => have := HM.out; omega
        case rel => exact ⟨k + 1, by have := HM.out; omega, by go_num, by rw [HCT.out]; first | rfl | go_num, rfl⟩
    · have hkN : k = N := by have := HM.out; omega
      have he : S.l.take k = S.l := List.take_of_length_le (by rw [← HN.out]; omega)
      have HE := Lib.hid he
      have hge : N ≤ k := by omega
      clear hk he hkN
      go_wp2_with fail
      go_ret
      exact ⟨ret_int (by rw [HE.out]), (Below.refl _ _).alloc (Nat.le_refl _) _⟩
end Go.Proofs.Ytdalnhhenahcjaa

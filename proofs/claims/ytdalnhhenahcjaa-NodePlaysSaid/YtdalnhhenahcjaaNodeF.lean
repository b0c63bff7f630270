/- New (layer 3): its contract. -/
import Derived.Test.YtdalnhhenahcjaaNodeE
namespace Go.Proofs.Ytdalnhhenahcjaa
open Go.RowKit HP NP
def base2 (v : Nat) : List Nd := [⟨true, v, 0, 0, 0⟩, ⟨true, v, 1, 1, 0⟩]
def newS (vars budget : Nat) : NS := ⟨vars, budget, base2 vars, 0, 0⟩
theorem newS_wf (vars budget : Nat) (h1 : vars ≤ 256) (h2 : 2 ≤ budget) (h3 : budget ≤ 1048576) : Wf (newS vars budget) := by
  have hno : ∀ k, 2 ≤ k → nd (base2 vars) k = Nd.no := fun k h => nd_ge (by simpa [base2] using h)
  refine ⟨by simp [newS, base2], h1, h2, h3, by simpa [newS, base2] using h2, ⟨0, rfl⟩, ⟨0, rfl⟩, fun k hk hb => ?_, fun j k hj _ bj _ _ => ?_, fun k hb => ?_, fun k => ?_⟩
  · unfold isB at hb; rw [show (newS vars budget).l = base2 vars from rfl, hno k hk] at hb; cases hb
  · unfold isB at bj; rw [show (newS vars budget).l = base2 vars from rfl, hno j hj] at bj; cases bj
  · rcases Nat.lt_or_ge k 2 with h | h
    · have : k = 0 ∨ k = 1 := by omega
      rcases this with rfl | rfl <;> cases hb
    · exact hno k h
  · rcases Nat.lt_or_ge k 2 with h | h
    · have : k = 0 ∨ k = 1 := by omega
      rcases this with rfl | rfl <;> exact Nat.zero_le _
    · show (nd (base2 vars) k).pins ≤ _
      rw [hno k h]; exact Nat.zero_le _
theorem newS_says (vars budget : Nat) : Says (newS vars budget).l (fun _ => none) := fun c v => by
  constructor
  · intro h; cases h
  · rintro ⟨k, ⟨h2, hb, _⟩, _⟩
    unfold isB at hb
    rw [show (newS vars budget).l = base2 vars from rfl, nd_ge (by simpa [base2] using h2)] at hb; cases hb
theorem newS_cnt (vars budget : Nat) : cnt (newS vars budget).l = 2 := rfl
theorem newS_frees (vars budget : Nat) : frees (newS vars budget).l = [] := rfl
theorem base2_snoc (v k : Nat) (h : k < 2) : (base2 v).take (k + 1) = (base2 v).take k ++ [⟨true, v, k, k, 0⟩] := by
  have : k = 0 ∨ k = 1 := by omega
  rcases this with rfl | rfl <;> rfl
theorem nd_ones (x : Nd) : ∀ u ∈ ndCells x, u.oneCell' = true := by
  intro u hu; simp [ndCells] at hu; rcases hu with rfl | rfl | rfl | rfl | rfl <;> rfl
/-- New's two rounds -/
def NewR (w wr : World) (B p q vars budget k : Nat) : Prop := ∃ v, Blk wr p 91 #[.int .i64 (vars : Int), .int .i64 (budget : Int), v, .slice none 0 0, .pointer (some ⟨q, 0, none⟩), .int .i64 2, .int .i64 0, .int .i64 0] ∧ wr.ownsRow w.heap.size 99 5 v k (((base2 vars).take k).flatMap ndCells) ∧ HB wr B q (fun _ => none) 0 ∧ Below w.heap.size w wr
def okNew (vars budget : Int) : Bool := decide (0 ≤ vars) && (decide (vars ≤ 256) && (decide (2 ≤ budget) && decide (budget ≤ 1048576)))
def NNewPost (B : Nat) (vars budget : Int) (w : World) (e : Ending) (w' : World) : Prop :=
  (okNew vars budget = true ∧ ∃ p, e = .returned (.tuple #[.pointer (some ⟨p, 0, none⟩), .int .i64 0]) ∧ Sto w' B p (newS vars.toNat budget.toNat) ∧ Below w.heap.size w w' ∧ w.heap.size ≤ p) ∨ (okNew vars budget = false ∧ e = .returned (.tuple #[.pointer none, .int .i64 1]) ∧ w = w')
set_option maxRecDepth 100000 in
set_option maxHeartbeats 2000000 in
theorem nnew_yes (w : World) (B : Nat) (hB : B ≤ w.heap.size) (vars budget : Nat) (h1 : vars ≤ 256) (h2 : 2 ≤ budget) (h3 : budget ≤ 1048576) :
    Calls Try.prog 25 #[.int .i64 (vars : Int), .int .i64 (budget : Int)] w fun e w' => ∃ p, e = .returned (.tuple #[.pointer (some ⟨p, 0, none⟩), .int .i64 0]) ∧ Sto w' B p (newS vars budget) ∧ Below w.heap.size w w' ∧ w.heap.size ≤ p := by
  have HWF := Lib.hid (newS_wf vars budget h1 h2 h3)
  have d0 : decide ((vars : Int) < 0) = false := decide_eq_false (by omega)
  have d1 : decide ((256 : Int) < (vars : Int)) = false := decide_eq_false (by omega)
  have d1' : decide (256 < vars) = false := decide_eq_false (by omega)
  have d2 : decide ((budget : Int) < 2) = false := decide_eq_false (by omega)
  have d2' : decide (budget < 2) = false := decide_eq_false (by omega)
  have d3 : decide ((1048576 : Int) < (budget : Int)) = false := decide_eq_false (by omega)
  have d3' : decide (1048576 < budget) = false := decide_eq_false (by omega)
  clear h1 h2 h3
  go_enter Try.func25, Try.ntmps25
  go_wp2_with fail
  refine (hb_new w B hB).mono ?_
  rintro e w1 ⟨q, rfl, hb1, hbel⟩
  have HH := Lib.hid hb1; have HB1 := Lib.hid hbel
  have hB1 : B ≤ w1.heap.size := by have := hbel.size; omega
  clear hb1 hbel d0 d1 d1' d2 d2' d3 d3'
  go_wp2_with fail
  go_loopg [27] 2 (fun m x wr => ∃ k : Nat, m + k = 2 ∧ x = .int .i64 (k : Int) ∧ NewR w wr B w1.heap.size q vars budget k)
  case atStart =>
    exact ⟨0, rfl, rfl, _, Blk.new_ _ _ _, World.ownsRow_nil _ _ _ _, HH.out.below ((Below.refl _ _).alloc (Nat.le_refl _) _), HB1.out.alloc HB1.out.size _⟩
  case round =>
    obtain ⟨k, hm, rfl, v, hp, hown, hh, hbel⟩ := hrel
    have HP := Lib.hid hp; have HO := Lib.hid hown; have HH2 := Lib.hid hh; have HBE := Lib.hid hbel; have HM := Lib.hid hm
    have c2 := hp.cell 2
    simp at c2
    have hpl : w1.heap.size < wr.heap.size := hp.lt
    have f2 : wr.frozen? ⟨w1.heap.size, 2, none⟩ = false := hp.frozen 2
    have hBr : w.heap.size ≤ wr.heap.size := hbel.size
    clear hp hown hh hbel hm
    by_cases hk : k < 2
    · obtain ⟨i0, hi0, hz0, hz1, hz2⟩ := info_parts info_one
      have hne : (some w1.heap.size) ≠ v.ownBlock := own_ne_blk HO.out HP.out (by decide)
      have HNE := Lib.hid hne
      clear hne
      go_wp2_with (at_builtin; refine wpList_append_src rfl (.tmp 34) (.tmp 39) 84 rfl w.heap.size 99 i0 (.agg #[.bool false, .int .i64 0, .int .i64 0, .int .i64 0, .int .i64 0]) 5 40 Try.underlying84 hi0 hz0 hz1 hz2 rfl (by decide) v k _ rfl (HO.out.alloc _) (some ⟨wr.heap.size, 0, none⟩) 1 1 (ndCells ⟨true, vars, k, k, 0⟩) rfl rfl (Cells.lit _ _ _) (nd_ones _) (by unfold maxLen; omega) (by omega) (by simp; omega) ?_)
      intro v' w2 hown hg _
      obtain ⟨g', cap', rfl⟩ := own_some hown (by omega)
      have hp2 := (HP.out.alloc_ (.cells (ndCells ⟨true, vars, k, k, 0⟩).toArray 99)).grown hg HNE.out
      have HP2 := Lib.hid hp2; have HO2 := Lib.hid hown; have HG := Lib.hid hg
      have c2' : w2.cell? ⟨w1.heap.size, 2, none⟩ = some v := hp2.cell 2
      have f2' : w2.frozen? ⟨w1.heap.size, 2, none⟩ = false := hp2.frozen 2
      have hpl2 : w1.heap.size < w2.heap.size := hp2.lt
      clear hown hg hp2 c2 f2
      go_wp2_with fail
      go_roundg (2 - (k + 1))
      case measure => have := HM.out; omega
      case rel =>
        have kp1 : Kp (fun t => t == 99) w.heap.size (wr.alloc (.cells (ndCells ⟨true, vars, k, k, 0⟩).toArray 99)) w2 := Kp.grown HG.out (fun j e _ => by
          obtain ⟨hj1, hj2⟩ := HO.out.lt j e
          rcases HO.out.2 with ⟨rfl, _⟩ | ⟨gg, cp, cur, rfl, hBg, hgg, _⟩
          · cases e
          · injection e with e; subst e
            exact ⟨hBg, cur, _, _, (Below.heap_alloc wr _ _ hj2).trans hgg, by rfl⟩)
        have kp2 : Kp (fun t => t == 91) w.heap.size w2 (w2.setCell ⟨w1.heap.size, 2, none⟩ (.slice (some ⟨g', 0, none⟩) (k + 1) cap')) := Kp.set HP2.out (by rfl) HB1.out.size _ _
        refine ⟨k + 1, by have := HM.out; omega, by go_num, _, HP2.out.set_ 2 _, ?_, ?_, ?_⟩
        · rw [base2_snoc _ _ hk, List.flatMap_append]
          have := own_kp HO2.out kp2 rfl
          simpa using this
        · exact ((HH2.out.below ((Below.refl _ _).alloc (Nat.le_refl _) _)).kp kp1 rfl rfl).kp kp2 rfl rfl
        · refine ((HBE.out.alloc HBE.out.size _).grown HG.out (by have := HBE.out.size; simp; omega) (fun j hj => (HO.out.lt j hj).1)).setCell (by have := HB1.out.size; exact this) _
    · have hk2 : k = 2 := by have := HM.out; omega
      subst hk2
      go_wp2_with fail
      go_ret2
      obtain ⟨g, cap, rfl⟩ := own_some HO.out (by omega)
      refine ⟨w1.heap.size, rfl, ⟨g, q, cap, none, 0, fun _ => none, ?_⟩, HBE.out, HB1.out.size⟩
      have e0 : wr64 0 = 0 := by simp [wr64, wrap64]
      have hp : Blk wr w1.heap.size 91 #[.int .i64 (vars : Int), .int .i64 (budget : Int), .slice (some ⟨g, 0, none⟩) 2 cap, .slice none 0 0, .pointer (some ⟨q, 0, none⟩), .int .i64 2, .int .i64 (wr64 0), .int .i64 (wr64 0)] := by rw [e0]; exact HP.out
      exact ⟨HWF.out, hB1, hp, own_base HO.out hB, Cells.nil _ _, TB.nil _ _, ⟨Nat.le_refl _, by unfold maxLen; omega⟩, HH2.out, newS_says _ _⟩
theorem nnew_ok (w : World) (B : Nat) (hB : B ≤ w.heap.size) (vars budget : Int) : Calls Try.prog 25 #[.int .i64 vars, .int .i64 budget] w (NNewPost B vars budget w) := by
  cases hok : okNew vars budget with
  | true =>
    have hok' := hok
    unfold okNew at hok'
    simp only [Bool.and_eq_true, decide_eq_true_eq] at hok'
    obtain ⟨v, rfl⟩ : ∃ v : Nat, vars = (v : Int) := ⟨vars.toNat, by omega⟩
    obtain ⟨b, rfl⟩ : ∃ b : Nat, budget = (b : Int) := ⟨budget.toNat, by omega⟩
    exact (nnew_yes w B hB v b (by omega) (by omega) (by omega)).mono fun _ _ h => .inl ⟨hok, h⟩
  | false =>
    have hok' := hok
    unfold okNew at hok'
    simp only [Bool.and_eq_false_iff, decide_eq_false_iff_not] at hok'
    have HOK := Lib.hid hok
    clear hok
    have fin : ∀ w', w = w' → NNewPost B vars budget w (.returned (.tuple #[.pointer none, .int .i64 1])) w' := fun w' h => .inr ⟨HOK.out, rfl, h⟩
    have FIN := Lib.hid fin
    clear fin
    have hc : (vars < 0) ∨ (¬ vars < 0 ∧ 256 < vars) ∨ (¬ vars < 0 ∧ ¬ 256 < vars ∧ budget < 2) ∨ (¬ vars < 0 ∧ ¬ 256 < vars ∧ ¬ budget < 2 ∧ 1048576 < budget) := by omega
    clear hok'
    rcases hc with h1 | ⟨h1, h2⟩ | ⟨h1, h2, h3⟩ | ⟨h1, h2, h3, h4⟩
    · have d1 := decide_eq_true h1
      clear h1
      go_enter Try.func25, Try.ntmps25
      go_wp2_with fail
      go_ret2
      exact FIN.out _ rfl
    · have d1 := decide_eq_false h1; have d2 := decide_eq_true h2
      clear h1 h2
      go_enter Try.func25, Try.ntmps25
      go_wp2_with fail
      go_ret2
      exact FIN.out _ rfl
    · have d1 := decide_eq_false h1; have d2 := decide_eq_false h2; have d3 := decide_eq_true h3
      clear h1 h2 h3
      go_enter Try.func25, Try.ntmps25
      go_wp2_with fail
      go_ret2
      exact FIN.out _ rfl
    · have d1 := decide_eq_false h1; have d2 := decide_eq_false h2; have d3 := decide_eq_false h3; have d4 := decide_eq_true h4
      clear h1 h2 h3 h4
      go_enter Try.func25, Try.ntmps25
      go_wp2_with fail
      go_ret2
      exact FIN.out _ rfl
end Go.Proofs.Ytdalnhhenahcjaa

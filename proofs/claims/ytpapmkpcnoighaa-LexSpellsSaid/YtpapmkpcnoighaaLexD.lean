/- awake of layer 10 -/
import Derived.Test.YtpapmkpcnoighaaLexC
namespace Go.Proofs.Ytpapmkpcnoighaa
open Go.RowKit LP
def Fine (w : World) (e : Ending) (w' : World) : Prop := e = .returned (.bool true) ∧ Below w.heap.size w w'
theorem sig_len (s : ByteArray) : (Sig s).1.length ≤ 4096 := by
  unfold Sig; split
  · simp
  · exact lexF_len _ _ 0 0 (by omega)
def strA : ByteArray := ⟨#[97, 40, 120, 41, 58, 45, 98, 46]⟩
def strB : ByteArray := ⟨#[97, 32, 63]⟩
theorem sigA : Sig strA = ([⟨1, [97], 0⟩, ⟨3, [40], 1⟩, ⟨1, [120], 2⟩, ⟨3, [41], 3⟩, ⟨3, [58, 45], 4⟩, ⟨1, [98], 6⟩, ⟨3, [46], 7⟩], 0, 0) := by kernel_rfl
theorem sigB : Sig strB = ([], 2, 100) := by kernel_rfl
set_option maxHeartbeats 400000 in
theorem awake10 (w : World) : Calls Try.prog 8 #[] w fun e w' => e = .returned (.bool true) ∧ Below w.heap.size w w' := by
  have hA := Lib.hid (fun v => signs_ok strA (by decide) v)
  have hB := Lib.hid (fun v => signs_ok strB (by decide) v)
  go_enter Try.func8, Try.ntmps8
  go_wp2_with fail
  refine (hA.out _).mono ?_
  rintro e w1 ⟨v, rfl, hown, hb1⟩
  rw [sigA] at hown ⊢
  have HO := Lib.hid hown; have HB1 := Lib.hid hb1; clear hown hb1
  go_wp2_with fail
  refine (hB.out _).mono ?_
  rintro e w2 ⟨v2, rfl, hown2, hb2⟩
  rw [sigB] at hown2 ⊢
  have HB2 := Lib.hid (HB1.out.trans (hb2.mono HB1.out.size))
  have HO2 := own_below HO.out hb2
  obtain ⟨g, cap, rfl, hcells⟩ : ∃ g cap, v = .slice (some ⟨g, 0, none⟩) 7 cap ∧ ∀ j, j < 21 → w2.cell? ⟨g, j, none⟩ = (sgCells [⟨1, [97], 0⟩, ⟨3, [40], 1⟩, ⟨1, [120], 2⟩, ⟨3, [41], 3⟩, ⟨3, [58, 45], 4⟩, ⟨1, [98], 6⟩, ⟨3, [46], 7⟩])[j]? := by
    rcases HO2.2 with ⟨_, h⟩ | ⟨g, cap, cur, rfl, _⟩
    · exact absurd h (by decide)
    · exact ⟨g, cap, rfl, fun j hj => HO2.cellAt j hj⟩
  have c12 := hcells 12 (by decide)
  have c13 := hcells 13 (by decide)
  have c14 := hcells 14 (by decide)
  simp [sgCells] at c12 c13 c14
  clear hown2 hb2 HO2 hcells
  go_wp2_with fail
  go_ret
  exact ⟨rfl, HB2.out⟩

theorem own_shape {w : World} {B e size n : Nat} {v : Value} {xs : List Value} (h : w.ownsRow B e size v n xs) : ∃ oa cap, v = .slice oa n cap := by
  rcases h.2 with ⟨h1, h2⟩ | ⟨g, cap, cur, h1, _⟩
  · exact ⟨none, 0, by rw [h1, h2]⟩
  · exact ⟨_, _, h1⟩
theorem own_row {w : World} {B e size n : Nat} {v : Value} {xs : List Value} (h : w.ownsRow B e size v n xs) (hn : 0 < n) : ∃ g cap, v = .slice (some ⟨g, 0, none⟩) n cap ∧ g < w.heap.size ∧ ∀ j, j < n * size → w.cell? ⟨g, j, none⟩ = xs[j]? := by
  rcases h.2 with ⟨_, h2⟩ | ⟨g, cap, cur, rfl, _⟩
  · omega
  · exact ⟨g, cap, rfl, (h.lt g rfl).2, fun j hj => h.cellAt j hj⟩
theorem sgCells_at (l : List Sg) (i : Nat) (h : i < l.length) : (sgCells l)[i * 3]? = some (.int .i64 (l[i].kind : Nat)) ∧ (sgCells l)[i * 3 + 1]? = some (.string ⟨l[i].text.toArray⟩) ∧ (sgCells l)[i * 3 + 2]? = some (.int .i64 (l[i].pos : Nat)) := by
  induction l generalizing i with
  | nil => simp at h
  | cons x t ih =>
    cases i with
    | zero => simp [sgCells]
    | succ i =>
      have h2 : i < t.length := by simpa using h
      have := ih i h2
      have e : sgCells (x :: t) = [.int .i64 (x.kind : Nat), .string ⟨x.text.toArray⟩, .int .i64 (x.pos : Nat)] ++ sgCells t := by simp [sgCells]
      rw [e]
      refine ⟨?_, ?_, ?_⟩
      · rw [List.getElem?_append_right (by simp; omega)]; simp only [List.length_cons, List.length_nil]; rw [show (i + 1) * 3 - (0 + 1 + 1 + 1) = i * 3 by omega]; exact this.1
      · rw [List.getElem?_append_right (by simp; omega)]; simp only [List.length_cons, List.length_nil]; rw [show (i + 1) * 3 + 1 - (0 + 1 + 1 + 1) = i * 3 + 1 by omega]; exact this.2.1
      · rw [List.getElem?_append_right (by simp; omega)]; simp only [List.length_cons, List.length_nil]; rw [show (i + 1) * 3 + 2 - (0 + 1 + 1 + 1) = i * 3 + 2 by omega]; exact this.2.2
set_option maxHeartbeats 400000 in
theorem same_ok (l : List Sg) (hl : l.length ≤ 4096) (B B2 : Nat) (v v2 : Value) (w : World) (h1 : w.ownsRow B 30 3 v l.length (sgCells l)) (h2 : w.ownsRow B2 30 3 v2 l.length (sgCells l)) :
    Calls Try.prog 11 #[v, v2] w fun e w' => e = .returned (.bool true) ∧ Below w.heap.size w w' := by
  by_cases h0 : l.length = 0
  · obtain ⟨oa, oc, rfl⟩ := own_shape h1
    obtain ⟨oa2, oc2, rfl⟩ := own_shape h2
    rw [h0]
    clear h1 h2 hl h0
    go_enter Try.func11, Try.ntmps11
    go_wp2_with fail
    go_loopg [5] 0 (fun m x wr => x = .int .i64 0 ∧ wr = w)
    case atStart => exact ⟨rfl, rfl⟩
    case round =>
      obtain ⟨rfl, rfl⟩ := hrel
      go_wp2_with fail
      go_ret
      exact ⟨rfl, Below.refl _ _⟩
  · obtain ⟨g, oc, rfl, hg, hc⟩ := own_row h1 (by omega)
    obtain ⟨g2, oc2, rfl, hg2, hc2⟩ := own_row h2 (by omega)
    have HC := Lib.hid hc; have HC2 := Lib.hid hc2
    clear h1 h2 h0 hc hc2
    obtain ⟨N, hN⟩ : ∃ N, N = l.length := ⟨_, rfl⟩
    have HN := Lib.hid hN
    rw [← hN]
    rw [← hN] at hl
    clear hN
    go_enter Try.func11, Try.ntmps11
    go_wp2_with fail
    go_loopg [5] N (fun m x wr => ∃ k : Nat, m + k = N ∧ x = .int .i64 (k : Int) ∧ Below w.heap.size w wr)
    case atStart => exact ⟨0, rfl, rfl, Below.refl _ _⟩
    case round =>
      obtain ⟨k, hmk, rfl, hB⟩ := hrel
      have HM := Lib.hid hmk
      have HB := Lib.hid hB
      clear hB
      by_cases hk : k < N
      · have hkl : k < l.length := by rw [← HN.out]; exact hk
        obtain ⟨e1, e2, e3⟩ := sgCells_at l k hkl
        have a1 := (HB.out.cell (p := ⟨g, k * 3, none⟩) hg).trans ((HC.out (k * 3) (by rw [← HN.out]; omega)).trans e1)
        have a2 := (HB.out.cell (p := ⟨g, k * 3 + 1, none⟩) hg).trans ((HC.out (k * 3 + 1) (by rw [← HN.out]; omega)).trans e2)
        have a3 := (HB.out.cell (p := ⟨g, k * 3 + 2, none⟩) hg).trans ((HC.out (k * 3 + 2) (by rw [← HN.out]; omega)).trans e3)
        have b1 := (HB.out.cell (p := ⟨g2, k * 3, none⟩) hg2).trans ((HC2.out (k * 3) (by rw [← HN.out]; omega)).trans e1)
        have b2 := (HB.out.cell (p := ⟨g2, k * 3 + 1, none⟩) hg2).trans ((HC2.out (k * 3 + 1) (by rw [← HN.out]; omega)).trans e2)
        have b3 := (HB.out.cell (p := ⟨g2, k * 3 + 2, none⟩) hg2).trans ((HC2.out (k * 3 + 2) (by rw [← HN.out]; omega)).trans e3)
        generalize hx : l[k] = x at a1 a2 a3 b1 b2 b3
        clear e1 e2 e3 hkl hmk hx
        go_wp2_with fail
        go_region
        go_wp2_with fail
        go_roundg (N - (k + 1))
        case measure => have := HM.out; omega
        case rel => exact ⟨k + 1, by omega, by go_num, HB.out.drew⟩
      · have hge : N ≤ k := by omega
        clear hmk
        go_wp2_with fail
        go_ret
        exact ⟨rfl, HB.out⟩
end Go.Proofs.Ytpapmkpcnoighaa

/- The contract of the reference's Spell. -/
import Derived.Test.YtpapmkpcnoighaaLexU
import Derived.Test.YtpapmkpcnoighaaOpen
namespace Go.Proofs.Ytpapmkpcnoighaa
open Go.RowKit LP
abbrev Sx := Int × ByteArray × Int
def sxCells (y : Sx) : List Value := [.int .i64 y.1, .string y.2.1, .int .i64 y.2.2]
def okL (l : List Sx) : Bool := l.all fun x => vS x.1 x.2.1.data.toList
def textL (l : List Sx) : List (List UInt8) := l.map (·.2.1.data.toList)
def JB (l : List Sx) : ByteArray := ⟨(J (textL l)).toArray⟩
theorem JB_size (l : List Sx) (h : okL l = true) : (JB l).size ≤ 33 * l.length := by
  have := J_len (textL l) (fun x hx => by
    obtain ⟨y, hy, rfl⟩ := List.mem_map.1 hx
    exact (vS_len y.1 _ (List.all_eq_true.1 h y hy)).1)
  rw [Lib.size_eq]; simpa [JB, textL] using this
theorem JB_one (x : Sx) : JB ([] ++ [x]) = ⟨#[]⟩ ++ x.2.1 := by
  apply ByteArray.ext; apply Array.toList_inj.1; simp [JB, textL, J]
theorem JB_snoc (l : List Sx) (x : Sx) (h : l ≠ []) : JB (l ++ [x]) = JB l ++ ⟨#[32]⟩ ++ x.2.1 := by
  apply ByteArray.ext; apply Array.toList_inj.1
  have e : textL (l ++ [x]) = textL l ++ [x.2.1.data.toList] := by simp [textL]
  have hn : textL l ≠ [] := by simpa [textL] using h
  simp [JB, e, J_snoc _ _ hn]
theorem sx_at (l : List Sx) (i : Nat) (h : i < l.length) : (l.flatMap sxCells)[i * 3]? = some (.int .i64 l[i].1) ∧ (l.flatMap sxCells)[i * 3 + 1]? = some (.string l[i].2.1) ∧ (l.flatMap sxCells)[i * 3 + 2]? = some (.int .i64 l[i].2.2) := by
  induction l generalizing i with
  | nil => simp at h
  | cons x t ih =>
    cases i with
    | zero => simp [sxCells]
    | succ i =>
      have h2 : i < t.length := by simpa using h
      have := ih i h2
      have e : (x :: t).flatMap sxCells = [.int .i64 x.1, .string x.2.1, .int .i64 x.2.2] ++ t.flatMap sxCells := by simp [sxCells]
      rw [e]
      refine ⟨?_, ?_, ?_⟩
      · rw [List.getElem?_append_right (by simp; omega)]; simp only [List.length_cons, List.length_nil]; rw [show (i + 1) * 3 - (0 + 1 + 1 + 1) = i * 3 by omega]; exact this.1
      · rw [List.getElem?_append_right (by simp; omega)]; simp only [List.length_cons, List.length_nil]; rw [show (i + 1) * 3 + 1 - (0 + 1 + 1 + 1) = i * 3 + 1 by omega]; exact this.2.1
      · rw [List.getElem?_append_right (by simp; omega)]; simp only [List.length_cons, List.length_nil]; rw [show (i + 1) * 3 + 2 - (0 + 1 + 1 + 1) = i * 3 + 2 by omega]; exact this.2.2
/-- a sign's three cells, wherever the list begins -/
theorem sx_cells {w : World} {a : Option Addr} {l : List Sx} (h : Cells w a (l.flatMap sxCells)) {i : Nat} (hi : i < l.length) :
    ∃ b off, a = some ⟨b, off, none⟩ ∧ b < w.heap.size ∧ w.cell? ⟨b, off + i * 3, none⟩ = some (.int .i64 l[i].1) ∧ w.cell? ⟨b, off + i * 3 + 1, none⟩ = some (.string l[i].2.1) ∧ w.cell? ⟨b, off + i * 3 + 2, none⟩ = some (.int .i64 l[i].2.2) := by
  obtain ⟨e1, e2, e3⟩ := sx_at l i hi
  obtain ⟨b, off, rfl, hb, c0⟩ := h.at_ e1
  obtain ⟨b1, off1, h1, _, c1⟩ := h.at_ e2
  obtain ⟨b2, off2, h2, _, c2⟩ := h.at_ e3
  injection h1 with h1; injection h1 with h1 h1'; subst h1 h1'
  injection h2 with h2; injection h2 with h2 h2'; subst h2 h2'
  exact ⟨b, off, rfl, hb, c0, c1, c2⟩
def SpT (l : List Sx) : ByteArray := if okL l then JB l else ⟨#[]⟩
def SpE (l : List Sx) : Int := if okL l then 0 else 1
theorem okL_take (l : List Sx) (i : Nat) (hi : i < l.length) (h : okL (l.take i) = true) (hx : vS l[i].1 l[i].2.1.data.toList = true) : okL (l.take (i + 1)) = true := by
  rw [List.take_add_one, List.getElem?_eq_getElem hi]
  unfold okL at h ⊢
  rw [List.all_append, h]; simpa using hx
theorem okL_not (l : List Sx) (i : Nat) (hi : i < l.length) (hx : vS l[i].1 l[i].2.1.data.toList = false) : okL l = false := by
  rw [Bool.eq_false_iff]; intro h
  have := List.all_eq_true.1 h l[i] (List.getElem_mem hi)
  rw [hx] at this; exact absurd this (by decide)
set_option maxHeartbeats 800000 in
theorem rspell_ok (l : List Sx) (hl : l.length ≤ 200) (hts : ∀ x ∈ l, x.2.1.size ≤ maxLen) (a : Option Addr) (cap : Nat) (w : World) (hc : Cells w a (l.flatMap sxCells)) :
    Calls Try.prog 13 #[.slice a l.length cap] w fun e w' => e = .returned (.tuple #[.string (SpT l), .int .i64 (SpE l)]) ∧ Below w.heap.size w w' := by
  have HCC := Lib.hid hc; clear hc
  obtain ⟨N, hN⟩ : ∃ N, N = l.length := ⟨_, rfl⟩
  have HN := Lib.hid hN
  rw [← hN] at hl ⊢
  have HT := Lib.hid hts; clear hts hN
  go_enter Try.func13, Try.ntmps13
  go_wp2_with fail
  go_loopg [4, 5] N (fun m x y wr => ∃ i : Nat, m + i = N ∧ y = .int .i64 (i : Int) ∧ x = .string (JB (l.take i)) ∧ okL (l.take i) = true ∧ Below w.heap.size w wr)
  case atStart => exact ⟨0, rfl, rfl, rfl, rfl, Below.refl _ _⟩
  case round =>
    obtain ⟨i, hmi, rfl, rfl, hok, hB⟩ := hrel
    have HM := Lib.hid hmi; have HOK := Lib.hid hok; have HB := Lib.hid hB
    clear hmi hok hB
    by_cases hi : i < N
    · have hil : i < l.length := by rw [← HN.out]; exact hi
      obtain ⟨b, off, rfl, hb, c0, c1, c2⟩ := sx_cells HCC.out hil
      have a0 := (HB.out.cell (p := ⟨b, off + i * 3, none⟩) hb).trans c0
      have a1 := (HB.out.cell (p := ⟨b, off + i * 3 + 1, none⟩) hb).trans c1
      have a2 := (HB.out.cell (p := ⟨b, off + i * 3 + 2, none⟩) hb).trans c2
      have hxs := HT.out l[i] (List.getElem_mem hil)
      have hsn := fun h => okL_take l i hil HOK.out h
      have hnot := fun h => okL_not l i hil h
      have htk : l.take (i + 1) = l.take i ++ [l[i]] := by rw [List.take_add_one, List.getElem?_eq_getElem hil]; rfl
      have hS := JB_size (l.take i) HOK.out
      rw [List.length_take] at hS
      generalize hx : l[i] = x at a0 a1 a2 hxs hsn hnot htk
      have HSN := Lib.hid hsn; have HNOT := Lib.hid hnot; have HTK := Lib.hid htk; have HXS := Lib.hid hxs
      clear c0 c1 c2 hsn hnot htk hx hxs hil
      cases hv : vS x.1 x.2.1.data.toList
      · have HV := Lib.hid hv; clear hv hS
        go_wp2_with fail
        refine (ris_ok x.1 x.2.1 HXS.out x.2.2 _).mono ?_
        rintro e w1 ⟨rfl, hb1⟩
        rw [HV.out]
        have HB1 := Lib.hid (HB.out.trans (hb1.mono HB.out.size)); clear hb1
        go_wp2_with fail
        go_ret2
        have hf := HNOT.out HV.out
        exact ⟨by unfold SpT SpE; rw [hf]; rfl, HB1.out⟩
      · have HV := Lib.hid hv; clear hv
        have ht32 : x.2.1.size ≤ 32 := by have := (vS_len _ _ HV.out).1; rw [← Lib.size_eq] at this; exact this
        obtain ⟨S, hSS⟩ : ∃ S, S = JB (l.take i) := ⟨_, rfl⟩
        rw [← hSS] at hS ⊢
        have hS2 : S.size ≤ 6600 := by omega
        have HS := Lib.hid hSS; clear hSS hS
        by_cases h0 : i = 0
        · have dI : ¬ 0 < i := by omega
          have hnew : JB (l.take (i + 1)) = S ++ x.2.1 := by
            have e0 : l.take i = [] := by rw [h0]; rfl
            rw [HTK.out, HS.out, e0, JB_one]; rfl
          have HNEW := Lib.hid hnew
          clear hnew h0
          go_wp2_with fail
          refine (ris_ok x.1 x.2.1 HXS.out x.2.2 _).mono ?_
          rintro e w1 ⟨rfl, hb1⟩
          rw [HV.out]
          have d1 := (hb1.cell (p := ⟨b, off + i * 3 + 1, none⟩) (Nat.lt_of_lt_of_le hb HB.out.size)).trans a1
          have HB1 := Lib.hid (HB.out.trans (hb1.mono HB.out.size)); clear hb1
          go_wp2_with fail
          go_roundg (N - (i + 1))
          case measure => have := HM.out; omega
          case rel => exact ⟨i + 1, by omega, by go_num, by rw [HNEW.out], HSN.out HV.out, HB1.out⟩
        · have dI : 0 < i := by omega
          have hnew : JB (l.take (i + 1)) = S ++ ⟨#[32]⟩ ++ x.2.1 := by
            rw [HTK.out, HS.out, JB_snoc]
            intro h; have := congrArg List.length h; rw [List.length_take, List.length_nil, ← HN.out] at this; omega
          have HNEW := Lib.hid hnew
          clear hnew h0
          go_wp2_with fail
          refine (ris_ok x.1 x.2.1 HXS.out x.2.2 _).mono ?_
          rintro e w1 ⟨rfl, hb1⟩
          rw [HV.out]
          have d1 := (hb1.cell (p := ⟨b, off + i * 3 + 1, none⟩) (Nat.lt_of_lt_of_le hb HB.out.size)).trans a1
          have HB1 := Lib.hid (HB.out.trans (hb1.mono HB.out.size)); clear hb1
          go_wp2_with fail
          go_roundg (N - (i + 1))
          case measure => have := HM.out; omega
          case rel => exact ⟨i + 1, by omega, by go_num, by rw [HNEW.out], HSN.out HV.out, HB1.out⟩
    · have hge : N ≤ i := by omega
      have htk : l.take i = l := List.take_of_length_le (by rw [← HN.out]; exact hge)
      have HTK := Lib.hid htk
      clear htk hi
      go_wp2_with fail
      go_ret2
      have hf : okL l = true := by rw [← HTK.out]; exact HOK.out
      exact ⟨by unfold SpT SpE; rw [hf, HTK.out]; rfl, HB.out⟩
end Go.Proofs.Ytpapmkpcnoighaa

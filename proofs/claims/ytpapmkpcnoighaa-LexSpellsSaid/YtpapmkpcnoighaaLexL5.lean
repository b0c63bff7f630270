/- LexSpells: the opener of a slice of signs, and the walk. -/
import Derived.Test.YtpapmkpcnoighaaLexW
import Derived.Deep.Strs
import Derived.BigQuiet
namespace Go.Proofs.Ytpapmkpcnoighaa
open Go.RowKit LP
section
open Go.ChangeShapes Go.WideShapes Go.ChangeAt Go.Deep
variable {H : Type} {enc : TypeId × Value → H} {w : World} {base : Nat} {held : Bool}
theorem list3v (cs : List Value) (h : cs.length = 3) : ∃ a b c, cs = [a, b, c] := by
  match cs, h with
  | [a, b, c], _ => exact ⟨a, b, c, rfl⟩
theorem read_sign : ∀ n cs x, DataW.trod enc Try.prog w base (fun _ => true) held n 30 cs = some x → ∃ y : Sx, cs = sxCells y ∧ y.2.1.size ≤ maxLen := fun n cs x h => by
  obtain ⟨y0, y1, y2, m, _, hl, h0, h1, h2⟩ := trod_struct3 Try.underlying30 h
  have hc : Try.prog.cellsOf 30 = 3 := by kernel_rfl
  have hi : Try.prog.cellsOf 3 = 1 := by kernel_rfl
  have hs : Try.prog.cellsOf 9 = 1 := by kernel_rfl
  rw [hc] at hl
  obtain ⟨a, b, c, rfl⟩ := list3v cs hl
  simp only [hi, hs] at h0 h1 h2
  obtain ⟨z0, e0, _, _⟩ := DataW.trod_int Try.underlying3 h0
  obtain ⟨z1, e1, _, l1⟩ := DataW.trod_string Try.underlying9 h1
  obtain ⟨z2, e2, _, _⟩ := DataW.trod_int Try.underlying3 h2
  simp at e0 e1 e2
  exact ⟨(z0, z1, z2), by rw [e0, e1, e2]; rfl, l1⟩
end
def kt (l : List Sx) : List (Int × List UInt8) := l.map fun x => (x.1, x.2.1.data.toList)
theorem sig_JB (l : List Sx) (hl : l.length ≤ 200) (h : okL l = true) : ∃ sg : List Sg, Sig (JB l) = (sg, 0, 0) ∧ sg.map (fun x => ((x.kind : Int), x.text)) = kt l := by
  obtain ⟨sg, h1, h2⟩ := lex_J (kt l) 0 0 (fun x hx => by
    obtain ⟨y, hy, rfl⟩ := List.mem_map.1 hx
    exact List.all_eq_true.1 h y hy) (by simp [kt]; omega)
  refine ⟨sg, ?_, h2⟩
  have hz := JB_size l h
  unfold Sig
  rw [if_neg (by omega)]
  have e : (JB l).data.toList = J ((kt l).map (·.2)) := by rw [kt, List.map_map]; simp only [JB, textL]; rfl
  rw [e]; exact h1
theorem kt_at (l : List Sx) (sg : List Sg) (h : sg.map (fun x => ((x.kind : Int), x.text)) = kt l) (i : Nat) (hi : i < l.length) : ∃ hs : i < sg.length, (sg[i].kind : Int) = l[i].1 ∧ (⟨sg[i].text.toArray⟩ : ByteArray) = l[i].2.1 := by
  have hlen : sg.length = l.length := by have := congrArg List.length h; simpa [kt] using this
  refine ⟨by omega, ?_⟩
  have hh : (sg.map (fun x => ((x.kind : Int), x.text)))[i]'(by simpa using (by omega : i < sg.length)) = (kt l)[i]'(by simpa [kt] using hi) := by simp only [h]
  simp [kt] at hh
  refine ⟨hh.1, ?_⟩
  rw [hh.2]
set_option maxRecDepth 100000 in
set_option maxHeartbeats 800000 in
theorem lexSpells_walk (w : World) (a : Option Addr) (c : Nat) (l : List Sx) (hlc : l.length ≤ c) (hm : c ≤ maxLen) (hw : Cells w a (l.flatMap sxCells)) (hwf : ∀ y ∈ l, y.2.1.size ≤ maxLen) : Calls Try.prog 7 #[.slice a l.length c] w (Fine w) := by
  have hA := Lib.hid awake10
  have HCC := Lib.hid hw
  have HWF := Lib.hid hwf
  unfold maxLen at hm
  obtain ⟨N, hN⟩ : ∃ N, N = l.length := ⟨_, rfl⟩
  have HN := Lib.hid hN
  have hNl : N ≤ 9223372036854775807 := by omega
  rw [← hN]
  clear hw hwf hN hlc hm
  go_enter Try.func7, Try.ntmps7
  go_wp2_with fail
  go_loopg [3] N (fun m x wr => ∃ i : Nat, m + i = N ∧ i ≤ 200 ∧ x = .int .i64 (i : Int) ∧ wr = w ∧ ∀ j (hj : j < l.length), j < i → l[j].2.1.size ≤ 1024)
  case atStart => exact ⟨0, rfl, by omega, rfl, rfl, fun j _ h => absurd h (by omega)⟩
  case round =>
    obtain ⟨i, hmi, hi2, rfl, rfl, hno⟩ := hrel
    have HM := Lib.hid hmi; have HNO := Lib.hid hno; clear hmi hno
    by_cases hgo : i < N ∧ i < 200
    · obtain ⟨g1, g2⟩ := hgo
      have hil : i < l.length := by rw [← HN.out]; exact g1
      obtain ⟨b, off, rfl, hb, c0, c1, c2⟩ := sx_cells HCC.out hil
      obtain ⟨x, hx⟩ : ∃ x, x = l[i] := ⟨_, rfl⟩
      rw [← hx] at c0 c1 c2
      have HX := Lib.hid hx
      have hxs := HWF.out l[i] (List.getElem_mem hil)
      rw [← hx] at hxs
      unfold maxLen at hxs
      clear c0 c2 hx
      by_cases hbig : 1024 < x.2.1.size
      · have d : decide (1024 < (x.2.1.size : Int)) = true := decide_eq_true (by omega)
        clear hbig
        go_wp2_with fail
        refine (hA.out _).mono ?_
        rintro e w' ⟨rfl, hb'⟩
        go_wp2_with fail
        go_ret
        exact ⟨rfl, hb'⟩
      · have d : decide (1024 < (x.2.1.size : Int)) = false := decide_eq_false (by omega)
        have hsm : x.2.1.size ≤ 1024 := by omega
        have HSM := Lib.hid hsm
        clear hbig hsm hxs
        go_wp2_with fail
        go_roundg (N - (i + 1))
        case measure => have := HM.out; omega
        case rel => exact ⟨i + 1, by omega, by omega, by go_num, rfl, fun j hj h => by
          rcases Nat.lt_or_ge j i with h2 | h2
          · exact HNO.out j hj h2
          · have : j = i := by omega
            subst this; rw [← HX.out]; exact HSM.out⟩
    · by_cases hbig : 200 < N
      · have g1 : i < N := by omega
        have g2 : ¬ i < 200 := by omega
        have g3 : decide (i < 200) = false := decide_eq_false g2
        have d : decide (200 < (N : Int)) = true := decide_eq_true (by omega)
        clear hgo hbig
        go_wp2_with fail
        refine (hA.out _).mono ?_
        rintro e w' ⟨rfl, hb'⟩
        go_wp2_with fail
        go_ret
        exact ⟨rfl, hb'⟩
      · have g1 : N ≤ i := by omega
        have hN2 : N ≤ 200 := by omega
        have d : decide (200 < (N : Int)) = false := decide_eq_false (by omega)
        have hts : ∀ x ∈ l, x.2.1.size ≤ 1024 := by
          intro x hx
          obtain ⟨j, hj, rfl⟩ := List.getElem_of_mem hx
          exact HNO.out j hj (by have := HN.out; omega)
        have HSP := Lib.hid (fun W hW => spell_ok l (by rw [← HN.out]; exact hN2) hts a c W hW)
        have HRS := Lib.hid (fun W hW => rspell_ok l (by rw [← HN.out]; exact hN2) HWF.out a c W hW)
        rw [← HN.out] at HSP HRS
        clear hgo hbig hts
        go_wp2_with fail
        refine (HSP.out _ HCC.out).mono ?_
        rintro e w1 ⟨rfl, hb1⟩
        have HB1 := Lib.hid hb1
        have HC1 := Lib.hid (HCC.out.below hb1)
        clear hb1
        go_wp2_with fail
        refine (HRS.out _ HC1.out).mono ?_
        rintro e w2 ⟨rfl, hb2⟩
        have HB2 := Lib.hid (HB1.out.trans (hb2.mono HB1.out.size))
        clear hb2
        cases hok : okL l
        · have e1 : SpE l = 1 := by unfold SpE; rw [hok]; rfl
          rw [e1]
          clear e1 hok
          go_wp2_with fail
          refine (hA.out _).mono ?_
          rintro e w4 ⟨rfl, hb4⟩
          have HB4 := Lib.hid (HB2.out.trans (hb4.mono HB2.out.size))
          clear hb4
          go_wp2_with fail
          go_ret
          exact ⟨rfl, HB4.out⟩
        · have e1 : SpE l = 0 := by unfold SpE; rw [hok]; rfl
          have e2 : SpT l = JB l := by unfold SpT; rw [hok]; rfl
          obtain ⟨sg, hsg, hkt⟩ := sig_JB l (by rw [← HN.out]; exact hN2) hok
          have hsl : sg.length = N := by have := congrArg List.length hkt; rw [List.length_map] at this; rw [this, HN.out]; simp [kt]
          have hjs := JB_size l hok
          have HSIG := Lib.hid hsg; have HKT := Lib.hid hkt; have HSL := Lib.hid hsl
          have HJS := Lib.hid (show (JB l).size ≤ maxLen by unfold maxLen; have := HN.out; omega)
          rw [e1, e2]
          generalize JB l = T at HSIG HJS
          clear e1 e2 hok hsg hkt hsl hjs
          go_wp2_with fail
          refine (signs_ok T HJS.out _).mono ?_
          rintro e w3 ⟨v3, rfl, hown3, hb3⟩
          rw [HSIG.out] at hown3 ⊢
          have HO3 := Lib.hid (HSL.out ▸ hown3 : w3.ownsRow w2.heap.size 30 3 v3 N (sgCells sg))
          obtain ⟨oa, oc, hv⟩ := own_shape HO3.out
          subst hv
          have HB3 := Lib.hid (HB2.out.trans (hb3.mono HB2.out.size))
          clear hown3 hb3
          go_wp2_with fail
          go_loopg [11] N (fun m x wq => ∃ i : Nat, m + i = N ∧ x = .int .i64 (i : Int) ∧ Below w3.heap.size w3 wq)
          case atStart => exact ⟨0, rfl, rfl, Below.refl _ _⟩
          case round =>
            obtain ⟨j, hmj, rfl, hB⟩ := hrel
            have HMJ := Lib.hid hmj; have HB := Lib.hid hB; clear hmj hB
            by_cases hj : j < N
            · have hjl : j < l.length := by rw [← HN.out]; exact hj
              obtain ⟨hjs, hk, htx⟩ := kt_at l sg HKT.out j hjl
              obtain ⟨b, off, rfl, hb, c0, c1, c2⟩ := sx_cells HCC.out hjl
              obtain ⟨g, oc', hv, hg, hcs⟩ := own_row HO3.out (by omega)
              injection hv with h1 h2 h3
              subst h1 h3
              obtain ⟨e1, e2, e3⟩ := sgCells_at sg j hjs
              rw [hk] at e1
              rw [htx] at e2
              have m0 := (HB.out.cell (p := ⟨g, j * 3, none⟩) hg).trans ((hcs (j * 3) (by omega)).trans e1)
              have m1 := (HB.out.cell (p := ⟨g, j * 3 + 1, none⟩) hg).trans ((hcs (j * 3 + 1) (by omega)).trans e2)
              have hbb : b < w3.heap.size := Nat.lt_of_lt_of_le hb HB3.out.size
              have l0 := (HB.out.cell (p := ⟨b, off + j * 3, none⟩) hbb).trans ((HB3.out.cell (p := ⟨b, off + j * 3, none⟩) hb).trans c0)
              have l1 := (HB.out.cell (p := ⟨b, off + j * 3 + 1, none⟩) hbb).trans ((HB3.out.cell (p := ⟨b, off + j * 3 + 1, none⟩) hb).trans c1)
              obtain ⟨x, hx⟩ : ∃ x, x = l[j] := ⟨_, rfl⟩
              rw [← hx] at m0 m1 l0 l1
              clear c0 c1 c2 e1 e2 e3 hk htx hcs hx
              go_wp2_with fail
              go_quiet (fail)
              go_wp2_with fail
              go_roundg (N - (j + 1))
              case measure => have := HMJ.out; omega
              case rel => exact ⟨j + 1, by omega, by go_num, ⟨HB.out.os, HB.out.tape, HB.out.output, HB.out.size, HB.out.block⟩⟩
            · have hge : N ≤ j := by omega
              clear hj
              go_wp2_with fail
              refine (hA.out _).mono ?_
              rintro e w4 ⟨rfl, hb4⟩
              have HB4 := Lib.hid ((HB3.out.trans (HB.out.mono HB3.out.size)).trans (hb4.mono (Nat.le_trans HB3.out.size HB.out.size)))
              clear hb4
              go_wp2_with fail
              go_ret
              exact ⟨rfl, HB4.out⟩
end Go.Proofs.Ytpapmkpcnoighaa

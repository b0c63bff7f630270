/- The contract of lex.Spell. -/
import Derived.Test.YtpapmkpcnoighaaLexV
namespace Go.Proofs.Ytpapmkpcnoighaa
open Go.RowKit LP
theorem J_tail (r : List (List UInt8)) : ∀ x, J (x :: r) = x ++ Lib.joinTail [32] r := by
  induction r with
  | nil => intro x; simp [J, Lib.joinTail]
  | cons y r ih =>
    intro x
    show x ++ 32 :: J (y :: r) = _
    rw [ih y]; simp [Lib.joinTail]
theorem J_join (xs : List (List UInt8)) : Lib.join xs [32] = J xs := by
  cases xs with
  | nil => rfl
  | cons x r => rw [Lib.join_cons, J_tail]
theorem info_str : (Try.prog.info? 9).map (fun i => (i.zero, i.size, i.bytes)) = some (some (.string ⟨#[]⟩), 1, 16) := by kernel_rfl
def strsOf (l : List Sx) : List Value := l.map fun x => .string x.2.1
theorem strs_at (l : List Sx) (j : Nat) (x : ByteArray) (h : (l.map (·.2.1))[j]? = some x) : (strsOf l)[j]? = some (.string x) := by
  unfold strsOf
  rw [List.getElem?_map] at h ⊢
  cases hj : l[j]? with
  | none => rw [hj] at h; simp at h
  | some y => rw [hj] at h; simp at h ⊢; exact h
set_option maxHeartbeats 800000 in
theorem spell_ok (l : List Sx) (hl : l.length ≤ 200) (hts : ∀ x ∈ l, x.2.1.size ≤ 1024) (a : Option Addr) (cap : Nat) (w : World) (hc : Cells w a (l.flatMap sxCells)) :
    Calls Try.prog 12 #[.slice a l.length cap] w fun e w' => e = .returned (.tuple #[.string (SpT l), .int .i64 (SpE l)]) ∧ Below w.heap.size w w' := by
  have HCC := Lib.hid hc; clear hc
  obtain ⟨N, hN⟩ : ∃ N, N = l.length := ⟨_, rfl⟩
  have HN := Lib.hid hN
  rw [← hN] at hl ⊢
  have HT := Lib.hid hts; clear hts hN
  go_enter Try.func12, Try.ntmps12
  go_wp2_with fail
  go_loopg [4, 14] N (fun m v y wr => ∃ i : Nat, m + i = N ∧ y = .int .i64 (i : Int) ∧ wr.ownsRow w.heap.size 9 1 v i (strsOf (l.take i)) ∧ okL (l.take i) = true ∧ Below w.heap.size w wr)
  case atStart => exact ⟨0, rfl, rfl, World.ownsRow_nil _ _ _ _, rfl, Below.refl _ _⟩
  case round =>
    obtain ⟨i, hmi, rfl, hown, hok, hB⟩ := hrel
    have HM := Lib.hid hmi; have HOK := Lib.hid hok; have HB := Lib.hid hB; have HO := Lib.hid hown
    clear hmi hok hB hown
    by_cases hi : i < N
    · have hil : i < l.length := by rw [← HN.out]; exact hi
      obtain ⟨b, off, rfl, hb, c0, c1, c2⟩ := sx_cells HCC.out hil
      have a0 := (HB.out.cell (p := ⟨b, off + i * 3, none⟩) hb).trans c0
      have a1 := (HB.out.cell (p := ⟨b, off + i * 3 + 1, none⟩) hb).trans c1
      have a2 := (HB.out.cell (p := ⟨b, off + i * 3 + 2, none⟩) hb).trans c2
      have hxs := HT.out l[i] (List.getElem_mem hil)
      have hsn := fun h => okL_take l i hil HOK.out h
      have hnot := fun h => okL_not l i hil h
      have htk : l.take (i + 1) = l.take i ++ [l[i]] := by rw [List.take_add_one, List.getElem?_eq_getElem hil]; rfl
      generalize hx : l[i] = x at a0 a1 a2 hxs hsn hnot htk
      have HSN := Lib.hid hsn; have HNOT := Lib.hid hnot; have HTK := Lib.hid htk
      clear c0 c1 c2 hsn hnot htk hx hil
      by_cases h0 : x.2.1.size = 0
      · have hv := vS_nil x.1 x.2.1 h0
        have HV := Lib.hid hv
        have hll := toList_nil x.2.1 h0
        clear hv
        go_wp2_with fail
        go_ret2
        have hf := HNOT.out HV.out
        exact ⟨by unfold SpT SpE; rw [hf]; rfl, HB.out.alloc HB.out.size _⟩
      · have hll := toList_ne x.2.1 (by omega)
        obtain ⟨K, n, hone⟩ : ∃ K n, oneL x.2.1.data.toList = (K, n) := ⟨_, _, rfl⟩
        have hv := vS_bytes x.1 x.2.1 (by omega) K n hone
        have HV := Lib.hid hv; have H1 := Lib.hid hone
        have hpos : 0 < x.2.1.size := by omega
        clear hv hone h0
        by_cases hK : (K : Int) = x.1
        · by_cases hn : n = x.2.1.size
          · have hv1 : vS x.1 x.2.1.data.toList = true := by rw [HV.out, hK, hn]; simp
            have HV1 := Lib.hid hv1
            have dK : ((K : Int) != x.1) = false := by rw [bne_eq_false_iff_eq]; exact hK
            have dn : ((n : Int) != (x.2.1.size : Int)) = false := by rw [bne_eq_false_iff_eq, hn]
            clear hv1 hK hn
            go_wp2_with fail
            refine (one_ok x.2.1 hpos (by unfold maxLen; omega) _).mono ?_
            rintro e w1 ⟨rfl, hb1⟩
            rw [H1.out]
            have hbx := hb1.block wr.heap.size (by simp)
            have B0 : Blk w1 wr.heap.size 30 #[.int .i64 x.1, .string x.2.1, .int .i64 x.2.2] := hbx.trans (Blk.new_ wr 30 _)
            have y0 : w1.cell? ⟨wr.heap.size, 0, none⟩ = some (.int .i64 x.1) := B0.cell 0
            have y1 : w1.cell? ⟨wr.heap.size, 1, none⟩ = some (.string x.2.1) := B0.cell 1
            have hbw := hb1.mono (show wr.heap.size ≤ _ by simp)
            have hBl := ((Below.refl _ wr).alloc (Nat.le_refl _) (.cells #[.int .i64 x.1, .string x.2.1, .int .i64 x.2.2] 30)).trans hbw
            have hown1 := own_below HO.out hBl
            have HB1 := Lib.hid (HB.out.trans (hBl.mono HB.out.size))
            clear hbx B0 hb1 hbw hBl
            obtain ⟨i0, hi0, hz0, hz1, hz2⟩ := info_parts info_str
            go_wp2_with (at_builtin; refine wpList_append_own _ rfl (.tmp 38) (.tmp 41) 44 rfl w.heap.size 9 i0 (.string ⟨#[]⟩) 1 16 Try.underlying44 hi0 hz0 hz1 hz2 rfl (by decide) _ _ _ rfl (hown1.alloc _) ⟨w1.heap.size, 0, none⟩ 1 1 [.string x.2.1] rfl rfl ?c1 ?c2 ?c3 ?c4 ?c5 ?_)
            case c1 =>
              intro j u hj
              match j, hj with
              | 0, hj => simp at hj; subst hj; simp [Addr.add]
            case c2 => intro u hu; simp at hu; subst hu; rfl
            case c3 => unfold maxLen; omega
            case c4 => omega
            case c5 => have := HB1.out.size; simp; omega
            intro v' w2 hown' hgrow _
            have hBel : Below w.heap.size w w2 := (HB1.out.alloc HB1.out.size _).grown hgrow (by have := HB1.out.size; simp; omega) (fun j hj => (hown1.lt j hj).1)
            have HOWN := Lib.hid hown'; have HBEL := Lib.hid hBel
            clear hown' hgrow hown1 hBel
            go_wp2_with fail
            go_roundg (N - (i + 1))
            case measure => have := HM.out; omega
            case rel =>
              refine ⟨i + 1, by omega, by go_num, ?_, HSN.out HV1.out, HBEL.out⟩
              have h := HOWN.out
              rw [HTK.out]
              have e : strsOf (l.take i ++ [x]) = strsOf (l.take i) ++ [.string x.2.1] := by simp [strsOf]
              rw [e]; exact h
          · have hv1 : vS x.1 x.2.1.data.toList = false := by rw [HV.out, show ((n : Int) == (x.2.1.size : Int)) = false by rw [beq_eq_false_iff_ne]; omega, Bool.and_false]
            have HV1 := Lib.hid hv1
            have dK : ((K : Int) != x.1) = false := by rw [bne_eq_false_iff_eq]; exact hK
            have dn : ((n : Int) != (x.2.1.size : Int)) = true := by rw [bne_iff_ne]; omega
            clear hv1 hK hn
            go_wp2_with fail
            refine (one_ok x.2.1 hpos (by unfold maxLen; omega) _).mono ?_
            rintro e w1 ⟨rfl, hb1⟩
            rw [H1.out]
            have hbx := hb1.block wr.heap.size (by simp)
            have B0 : Blk w1 wr.heap.size 30 #[.int .i64 x.1, .string x.2.1, .int .i64 x.2.2] := hbx.trans (Blk.new_ wr 30 _)
            have y0 : w1.cell? ⟨wr.heap.size, 0, none⟩ = some (.int .i64 x.1) := B0.cell 0
            have y1 : w1.cell? ⟨wr.heap.size, 1, none⟩ = some (.string x.2.1) := B0.cell 1
            have hBl := ((Below.refl _ wr).alloc (Nat.le_refl _) (.cells #[.int .i64 x.1, .string x.2.1, .int .i64 x.2.2] 30)).trans (hb1.mono (show wr.heap.size ≤ _ by simp))
            have HB1 := Lib.hid (HB.out.trans (hBl.mono HB.out.size))
            clear hbx B0 hb1 hBl
            go_wp2_with fail
            go_ret2
            have hf := HNOT.out HV1.out
            exact ⟨by unfold SpT SpE; rw [hf]; rfl, HB1.out⟩
        · have hKb : ((K : Int) == x.1) = false := by rw [beq_eq_false_iff_ne]; exact hK
          have hv1 : vS x.1 x.2.1.data.toList = false := by rw [HV.out, hKb, Bool.false_and]
          have HV1 := Lib.hid hv1
          have dK : ((K : Int) != x.1) = true := by rw [bne_iff_ne]; exact hK
          clear hv1 hK hKb
          go_wp2_with fail
          refine (one_ok x.2.1 hpos (by unfold maxLen; omega) _).mono ?_
          rintro e w1 ⟨rfl, hb1⟩
          rw [H1.out]
          have hbx := hb1.block wr.heap.size (by simp)
          have B0 : Blk w1 wr.heap.size 30 #[.int .i64 x.1, .string x.2.1, .int .i64 x.2.2] := hbx.trans (Blk.new_ wr 30 _)
          have y0 : w1.cell? ⟨wr.heap.size, 0, none⟩ = some (.int .i64 x.1) := B0.cell 0
          have y1 : w1.cell? ⟨wr.heap.size, 1, none⟩ = some (.string x.2.1) := B0.cell 1
          have hBl := ((Below.refl _ wr).alloc (Nat.le_refl _) (.cells #[.int .i64 x.1, .string x.2.1, .int .i64 x.2.2] 30)).trans (hb1.mono (show wr.heap.size ≤ _ by simp))
          have HB1 := Lib.hid (HB.out.trans (hBl.mono HB.out.size))
          clear hbx B0 hb1 hBl
          go_wp2_with fail
          go_ret2
          have hf := HNOT.out HV1.out
          exact ⟨by unfold SpT SpE; rw [hf]; rfl, HB1.out⟩
    · have hie : i = N := by have := HM.out; omega
      have hge : N ≤ i := by omega
      have htk : l.take i = l := List.take_of_length_le (by rw [← HN.out]; exact hge)
      have HTK := Lib.hid htk
      have hf : okL l = true := by rw [← htk]; exact HOK.out
      have HF := Lib.hid hf
      have ho := HO.out
      rw [htk, hie] at ho
      have HO2 := Lib.hid ho
      clear htk hi hf ho
      by_cases hN0 : N = 0
      · obtain ⟨oa, oc, rfl⟩ := own_shape HO2.out
        have hl0 : l = [] := List.eq_nil_of_length_eq_zero (by rw [← HN.out]; exact hN0)
        have HL0 := Lib.hid hl0
        clear hl0 hie
        rw [hN0]
        go_wp2_with fail
        refine (Try.strings_Join_none _ _ _ _).mono ?_
        rintro e w2 ⟨rfl, rfl⟩
        go_wp2_with fail
        go_ret2
        refine ⟨?_, HB.out⟩
        have e1 : SpT l = ⟨#[]⟩ := by rw [HL0.out]; rfl
        have e2 : SpE l = 0 := by rw [HL0.out]; rfl
        rw [e1, e2]; rfl
      · obtain ⟨g, oc, rfl, hg, hcs⟩ := own_row HO2.out (by omega)
        have hcap : N ≤ oc := by
          rcases HO2.out.2 with ⟨h1, _⟩ | ⟨g', cap', cur, h1, _, _, h2, _⟩
          · cases h1
          · injection h1 with _ _ h3; omega
        have hln : (l.map (·.2.1)).length = N := by rw [List.length_map, HN.out]
        have hj : Lib.join ((l.map (·.2.1)).map (·.data.toList)) [32] = J (textL l) := by rw [J_join, List.map_map]; rfl
        have hjl : (J (textL l)).length ≤ 33 * l.length := by have := JB_size l HF.out; rw [Lib.size_eq] at this; simpa [JB] using this
        have HJ := Try.strings_Join g 0 oc (l.map (·.2.1)) ⟨#[32]⟩ wr (fun j x hx => by
          rw [Nat.zero_add, hcs j (by have := (List.getElem?_eq_some_iff.1 hx).1; omega)]; exact strs_at l j x hx) hg (by omega) (by omega) (by
          show (Lib.join ((l.map (·.2.1)).map (·.data.toList)) [32]).length ≤ _
          rw [hj]; have := HN.out; omega)
        have hJ2 : (Lib.join ((l.map (·.2.1)).map (·.data.toList)) (⟨#[32]⟩ : ByteArray).data.toList) = J (textL l) := hj
        rw [hln, hJ2] at HJ
        have HJJ := Lib.hid HJ
        clear hie hcs hj hjl hJ2 HJ hcap hln
        go_wp2_with fail
        refine HJJ.out.mono ?_
        rintro e w2 ⟨rfl, hb2⟩
        have HB2 := Lib.hid (HB.out.trans (hb2.mono HB.out.size)); clear hb2
        go_wp2_with fail
        go_ret2
        exact ⟨by unfold SpT SpE; rw [HF.out]; rfl, HB2.out⟩
end Go.Proofs.Ytpapmkpcnoighaa

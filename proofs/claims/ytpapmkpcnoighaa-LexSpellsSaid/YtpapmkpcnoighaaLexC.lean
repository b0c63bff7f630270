/- Signs' closures, and the cells of signs -/
import Derived.Test.YtpapmkpcnoighaaLexB
namespace Go.Proofs.Ytpapmkpcnoighaa
open Go.RowKit LP
set_option maxHeartbeats 400000 in
theorem blank_ok (c : UInt8) (w : World) : Calls Try.prog 15 #[.int .u8 (c.toNat : Int)] w fun e w' => e = .returned (.bool (blankB c)) ∧ w = w' := by
  have hi := Lib.hid (idx_blanks c)
  have hb := u8_bd c
  go_enter Try.func15, Try.ntmps15
  go_wp2_with fail
  refine (Try.strings_IndexByte _ _ _).mono ?_
  rintro e w' ⟨rfl, rfl⟩
  go_wp2
  go_ret
  exact ⟨ret_bool (by first | exact hi.out | (rw [← hi.out]; simp)), rfl⟩
set_option maxHeartbeats 400000 in
theorem noline_ok (c : UInt8) (w : World) : Calls Try.prog 17 #[.int .u8 (c.toNat : Int)] w fun e w' => e = .returned (.bool (noLine c)) ∧ w = w' := by
  have hb := u8_bd c
  cases hn : noLine c
  · have h : ((c.toNat : Int) == 10) = true := by rw [beq_iff_eq]; simp [noLine] at hn; omega
    clear hn
    go_enter Try.func17, Try.ntmps17
    go_wp2
    go_ret
    exact ⟨ret_bool (by first | rfl | (rw [beq_iff_eq] at h; simp [h]; done) | (rw [beq_eq_false_iff_ne] at h; simp [h]; done)), rfl⟩
  · have h : ((c.toNat : Int) == 10) = false := by rw [beq_eq_false_iff_ne]; simp [noLine] at hn; omega
    clear hn
    go_enter Try.func17, Try.ntmps17
    go_wp2
    go_ret
    exact ⟨ret_bool (by first | rfl | (rw [beq_iff_eq] at h; simp [h]; done) | (rw [beq_eq_false_iff_ne] at h; simp [h]; done)), rfl⟩
theorem call_blank (args : Array Value) (w : World) : (callFunc 15 args).run Try.prog w = .ok (.enter 15 args) w := MuLone.run_callFunc_enter Try.func15 (by kernel_rfl) rfl args w
theorem call_noline (args : Array Value) (w : World) : (callFunc 17 args).run Try.prog w = .ok (.enter 17 args) w := MuLone.run_callFunc_enter Try.func17 (by kernel_rfl) rfl args w
theorem run_blank (s : ByteArray) (hs : s.size ≤ maxLen) (w : World) : Calls Try.prog 14 #[.string s, .func (.func 15) #[] #[]] w fun e w' => e = .returned (.int .i64 (runL blankB s.data.toList : Nat)) ∧ w = w' := run_ok 15 blankB blank_ok call_blank s hs w
theorem run_noline (s : ByteArray) (hs : s.size ≤ maxLen) (w : World) : Calls Try.prog 14 #[.string s, .func (.func 17) #[] #[]] w fun e w' => e = .returned (.int .i64 (runL noLine s.data.toList : Nat)) ∧ w = w' := run_ok 17 noLine noline_ok call_noline s hs w

def sgCells (l : List Sg) : List Value := l.flatMap fun x => [.int .i64 (x.kind : Nat), .string ⟨x.text.toArray⟩, .int .i64 (x.pos : Nat)]
theorem sgCells_len (l : List Sg) : (sgCells l).length = l.length * 3 := by
  unfold sgCells; induction l with
  | nil => rfl
  | cons x t ih => simp [List.flatMap_cons] at ih ⊢; omega
theorem sgCells_app (l m : List Sg) : sgCells (l ++ m) = sgCells l ++ sgCells m := by simp [sgCells]
theorem ext_drop (s : ByteArray) (k : Nat) : (s.extract k s.size).data.toList = s.data.toList.drop k := by
  rw [Lib.extract_data, List.take_of_length_le]
  rw [List.length_drop, ← Lib.size_eq]; omega
theorem info_sign : (Try.prog.info? 30).map (fun i => (i.zero, i.size, i.bytes)) = some (some (.agg #[.int .i64 0, .string ⟨#[]⟩, .int .i64 0]), 3, 32) := by kernel_rfl
theorem own_below {w w' : World} {B e size n : Nat} {v : Value} {xs : List Value} (h : w.ownsRow B e size v n xs) (hb : Below w.heap.size w w') : w'.ownsRow B e size v n xs := by
  refine ⟨h.1, ?_⟩
  rcases h.2 with hn | ⟨g, cap, cur, rfl, hg, hgg, rest⟩
  · exact .inl hn
  · exact .inr ⟨g, cap, cur, rfl, hg, by rw [hb.block g (Array.getElem?_eq_some_iff.1 hgg).1]; exact hgg, rest⟩
theorem ext_text (s : ByteArray) (q n r : Nat) (hr : r = q + n) : s.extract q r = ⟨((s.data.toList.drop q).take n).toArray⟩ := by
  have h := Lib.extract_data s q r
  rw [show r - q = n by omega] at h
  rw [← h]
def Sig (s : ByteArray) : List Sg × Nat × Nat := if 16384 < s.size then ([], 0, 1) else lex s.data.toList 0 0
set_option maxHeartbeats 400000 in
theorem signs_ok (s : ByteArray) (hs : s.size ≤ maxLen) (w : World) : Calls Try.prog 9 #[.string s] w fun e w' => ∃ v, e = .returned (.tuple #[v, .int .i64 ((Sig s).2.1 : Nat), .int .i64 ((Sig s).2.2 : Nat)]) ∧ w'.ownsRow w.heap.size 30 3 v (Sig s).1.length (sgCells (Sig s).1) ∧ Below w.heap.size w w' := by
  unfold maxLen at hs
  by_cases hL : 16384 < s.size
  · have hz : Sig s = ([], 0, 1) := by unfold Sig; rw [if_pos hL]
    have HZ := Lib.hid hz; clear hz
    have h1 : decide (16384 < (s.size : Int)) = true := decide_eq_true (by omega)
    clear hL
    go_enter Try.func9, Try.ntmps9
    go_wp2_with fail
    go_ret3
    refine ⟨.slice none 0 0, ?_, by rw [HZ.out]; exact World.ownsRow_nil _ _ _ _, Below.refl _ _⟩
    rw [HZ.out]; rfl
  · have hz : Sig s = lex s.data.toList 0 0 := by unfold Sig; rw [if_neg hL]
    have HZ := Lib.hid hz; clear hz
    have h1 : decide (16384 < (s.size : Int)) = false := decide_eq_false (by omega)
    have h16 : s.size ≤ 16384 := by omega
    clear hL
    go_enter Try.func9, Try.ntmps9
    go_wp2_with fail
    go_loopg [5, 6] s.size (fun m v x wr => ∃ (k : Nat) (out : List Sg), m + k = s.size ∧ x = .int .i64 (k : Int) ∧ wr.ownsRow w.heap.size 30 3 v out.length (sgCells out) ∧ out.length ≤ 4096 ∧ lex s.data.toList 0 0 = fin out (lex (s.data.toList.drop k) k out.length) ∧ Below w.heap.size w wr)
    case atStart => exact ⟨0, [], rfl, rfl, World.ownsRow_nil _ _ _ _, by simp, by simp [fin_nil _ (lex_err _ _ _)], Below.refl _ _⟩
    case round =>
      obtain ⟨k, out, hmk, rfl, hown, hcnt, hlex, hB⟩ := hrel
      have hkl : k ≤ s.size := by omega
      have hsz : s.size = s.data.toList.length := Lib.size_eq s
      have hjl := runL_le blankB (s.data.toList.drop k)
      rw [List.length_drop] at hjl
      have HS := Lib.hid hsz
      obtain ⟨j, hj⟩ : ∃ j, j = runL blankB (s.data.toList.drop k) := ⟨_, rfl⟩
      obtain ⟨q, hq⟩ : ∃ q, q = k + runL blankB (s.data.toList.drop k) := ⟨_, rfl⟩
      have hql : q ≤ s.size := by omega
      have hkj : k + j = q := by omega
      have HJ := Lib.hid hj; have HQ := Lib.hid hq; have HM := Lib.hid hmk; have HX := Lib.hid hlex; have HO := Lib.hid hown; have HC := Lib.hid hcnt; have HB := Lib.hid hB
      have HKJ : Lib.hid hkj = Lib.hid hkj := rfl
      have hI : (k : Int) + (j : Int) = (q : Int) := by omega
      clear hsz hjl hj hq hmk hlex hown hcnt hB HKJ hkj
      by_cases he : q = s.size
      · have hE : ((q : Int) == (s.size : Int)) = true := by rw [beq_iff_eq]; omega
        have hfin := round_end s.data.toList k q out HQ.out (by rw [he]; exact HS.out)
        have HF := Lib.hid hfin
        clear hfin
        go_wp2_with fail
        refine (run_blank _ (by unfold maxLen; simp; omega) _).mono ?_
        rintro e w' ⟨rfl, rfl⟩
        rw [ext_drop, ← HJ.out]
        go_wp2_with fail
        go_ret3
        have hall : Sig s = (out, 0, 0) := HZ.out.trans (HX.out.trans HF.out)
        exact ⟨u5, by rw [hall]; rfl, by rw [hall]; exact HO.out, HB.out⟩
      · have hlt : q < s.size := by omega
        have hE : ((q : Int) == (s.size : Int)) = false := by rw [beq_eq_false_iff_ne]; omega
        have hlq : q < s.data.toList.length := by rw [← HS.out]; exact hlt
        have hc0 : s[q] = s.data.toList[q] := rfl
        by_cases h35 : s[q].toNat = 35
        · obtain ⟨n, hn⟩ : ∃ n, n = runL noLine (s.data.toList.drop q) := ⟨_, rfl⟩
          have hrem := fun c => round_remark s.data.toList k q n c HQ.out hn hlq (by rw [← hc0]; exact h35)
          have HR := Lib.hid hrem; have HN := Lib.hid hn
          have hn0 := (hrem 0).2.1
          have hqn : q + n ≤ s.size := by rw [HS.out]; exact (hrem 0).2.2
          have hC : ((s[q].toNat : Int) == 35) = true := by rw [beq_iff_eq]; omega
          obtain ⟨r, hr⟩ : ∃ r, r = q + n := ⟨_, rfl⟩
          have hQN : (q : Int) + (n : Int) = (r : Int) := by omega
          have hrl : r ≤ s.size := by omega
          have HRR := Lib.hid hr
          clear hr
          clear he hc0 h35 hn hrem
          go_wp2_with fail
          refine (run_blank _ (by unfold maxLen; simp; omega) _).mono ?_
          rintro e w' ⟨rfl, rfl⟩
          rw [ext_drop, ← HJ.out]
          go_wp2_with fail
          refine (run_noline _ (by unfold maxLen; simp; omega) _).mono ?_
          rintro e w' ⟨rfl, rfl⟩
          rw [ext_drop, ← HN.out]
          go_wp2_with fail
          go_roundg (s.size - r)
          case measure => have := HM.out; have := HQ.out; have := HRR.out; omega
          case rel => exact ⟨r, out, by omega, by go_num, HO.out, HC.out, by rw [HX.out, (HR.out _).1, HRR.out], HB.out⟩
        · have hsig := fun c => round_sign s.data.toList k q c HQ.out hlq (by rw [← hc0]; exact h35)
          have hon := oneL_len s.data.toList q hlq
          obtain ⟨K, n, hone⟩ : ∃ K n, oneL (s.data.toList.drop q) = (K, n) := ⟨_, _, rfl⟩
          rw [hone] at hon
          have hqn : q + n ≤ s.size := by rw [HS.out]; exact hon
          have hC : ((s[q].toNat : Int) == 35) = false := by rw [beq_eq_false_iff_ne]; omega
          obtain ⟨r, hr⟩ : ∃ r, r = q + n := ⟨_, rfl⟩
          have hQN : (q : Int) + (n : Int) = (r : Int) := by omega
          have hrl : r ≤ s.size := by omega
          have HRR := Lib.hid hr
          clear hr
          have HG := Lib.hid hsig; have H1 := Lib.hid hone
          clear he hc0 h35 hsig hon hone
          by_cases hn0 : n = 0
          · have hN : (((n : Nat) : Int) == 0) = true := by rw [hn0]; rfl
            have hall : Sig s = ([], q, 100) := by
              rw [HZ.out, HX.out, HG.out, H1.out, if_pos hn0]; simp [fin]
            have HA := Lib.hid hall; clear hall hn0
            go_wp2_with fail
            refine (run_blank _ (by unfold maxLen; simp; omega) _).mono ?_
            rintro e w' ⟨rfl, rfl⟩
            rw [ext_drop, ← HJ.out]
            go_wp2_with fail
            refine (one_ok _ (by simp; omega) (by unfold maxLen; simp; omega) _).mono ?_
            rintro e w' ⟨rfl, hb1⟩
            rw [ext_drop, H1.out]
            have HB1 := Lib.hid hb1; clear hb1
            go_wp2_with fail
            go_ret3
            exact ⟨.slice none 0 0, by rw [HA.out]; rfl, by rw [HA.out]; exact World.ownsRow_nil _ _ _ _, HB.out.trans (HB1.out.mono HB.out.size)⟩
          · have hN : (((n : Nat) : Int) == 0) = false := by rw [beq_eq_false_iff_ne]; omega
            by_cases hfull : 4096 ≤ out.length
            · have hF : decide (4096 ≤ ((out.length : Nat) : Int)) = true := decide_eq_true (by omega)
              have hall : Sig s = ([], q, 2) := by
                rw [HZ.out, HX.out, HG.out, H1.out, if_neg hn0, if_pos hfull]; simp [fin]
              have HA := Lib.hid hall; clear hall hfull
              obtain ⟨oa, oc, hv⟩ : ∃ oa oc, u5 = .slice oa out.length oc := by
                have := HO.out; rcases this.2 with ⟨h1, h2⟩ | ⟨g, cap, cur, h1, _⟩
                · rw [h2]; exact ⟨_, _, h1⟩
                · exact ⟨_, _, h1⟩
              subst hv
              go_wp2_with fail
              refine (run_blank _ (by unfold maxLen; simp; omega) _).mono ?_
              rintro e w' ⟨rfl, rfl⟩
              rw [ext_drop, ← HJ.out]
              go_wp2_with fail
              refine (one_ok _ (by simp; omega) (by unfold maxLen; simp; omega) _).mono ?_
              rintro e w' ⟨rfl, hb1⟩
              rw [ext_drop, H1.out]
              have HB1 := Lib.hid hb1; clear hb1
              go_wp2_with fail
              go_ret3
              exact ⟨.slice none 0 0, by rw [HA.out]; rfl, by rw [HA.out]; exact World.ownsRow_nil _ _ _ _, HB.out.trans (HB1.out.mono HB.out.size)⟩
            · have hF : decide (4096 ≤ ((out.length : Nat) : Int)) = false := decide_eq_false (by omega)
              have hlc : out.length < 4096 := by omega
              obtain ⟨oa, oc, hv⟩ : ∃ oa oc, u5 = .slice oa out.length oc := by
                have := HO.out; rcases this.2 with ⟨h1, h2⟩ | ⟨g, cap, cur, h1, _⟩
                · rw [h2]; exact ⟨_, _, h1⟩
                · exact ⟨_, _, h1⟩
              subst hv
              obtain ⟨x, hx⟩ : ∃ x : Sg, x = ⟨K, (s.data.toList.drop q).take n, q⟩ := ⟨_, rfl⟩
              have hnew : lex s.data.toList 0 0 = fin (out ++ [x]) (lex (s.data.toList.drop (q + n)) (q + n) (out ++ [x]).length) := by
                rw [HX.out, HG.out, H1.out, if_neg hn0, if_neg hfull, fin_put1, hx]; simp
              have HNEW := Lib.hid hnew
              have HXX := Lib.hid hx
              clear hnew hfull hx
              go_wp2_with fail
              refine (run_blank _ (by unfold maxLen; simp; omega) _).mono ?_
              rintro e w' ⟨rfl, rfl⟩
              rw [ext_drop, ← HJ.out]
              go_wp2_with fail
              refine (one_ok _ (by simp; omega) (by unfold maxLen; simp; omega) _).mono ?_
              rintro e w' ⟨rfl, hb1⟩
              rw [ext_drop, H1.out]
              have hown1 := own_below HO.out hb1
              have hB1 := HB.out.trans (hb1.mono HB.out.size)
              have HB1 := Lib.hid hB1; clear hb1 hB1
              obtain ⟨i0, hi, hz0, hz1, hz2⟩ := info_parts info_sign
              go_wp2_with (at_builtin; refine wpList_append_own _ rfl (.tmp 49) (.tmp 59) 23 rfl w.heap.size 30 i0 (.agg #[.int .i64 0, .string ⟨#[]⟩, .int .i64 0]) 3 32 Try.underlying23 hi hz0 hz1 hz2 rfl (by decide) _ _ _ rfl (hown1.alloc _) ⟨w'.heap.size, 0, none⟩ 1 1 [.int .i64 (K : Int), .string (s.extract q r), .int .i64 (q : Int)] rfl rfl ?c1 ?c2 ?c3 ?c4 ?c5 ?_)
              case c1 =>
                intro j u hj
                match j, hj with
                | 0, hj => simp at hj; subst hj; simp [Addr.add]
                | 1, hj => simp at hj; subst hj; simp [Addr.add]
                | 2, hj => simp at hj; subst hj; simp [Addr.add]
              case c2 => intro u hu; simp at hu; rcases hu with rfl | rfl | rfl <;> rfl
              case c3 => unfold maxLen; omega
              case c4 => omega
              case c5 => have := HB1.out.size; simp; omega
              intro v' w1 hown' hgrow _
              have hBel : Below w.heap.size w w1 := (HB1.out.alloc (by have := HB1.out.size; omega) _).grown hgrow (by have := HB1.out.size; simp; omega) (fun j hj => (hown1.lt j hj).1)
              have HOWN := Lib.hid hown'; have HBEL := Lib.hid hBel
              clear hown' hgrow hown1 hBel
              go_wp2_with fail
              go_roundg (s.size - r)
              case measure => have := HM.out; have := HQ.out; have := HRR.out; omega
              case rel =>
                refine ⟨r, out ++ [x], by omega, by go_num, ?_, by simp; omega, by rw [HRR.out]; exact HNEW.out, HBEL.out⟩
                have h := HOWN.out
                rw [ext_text s q n r HRR.out] at h
                rw [sgCells_app, List.length_append, HXX.out]
                exact h
end Go.Proofs.Ytpapmkpcnoighaa

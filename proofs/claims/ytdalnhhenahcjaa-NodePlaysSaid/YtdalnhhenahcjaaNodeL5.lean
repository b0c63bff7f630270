/- NodeSplits: the walk. -/
import Derived.Test.YtdalnhhenahcjaaNodeL4
namespace Go.Proofs.Ytdalnhhenahcjaa
open Go.RowKit HP NP
theorem rc_v {S : NS} (hW : Wf S) {k j : Nat} (hr : Rc S.l k j) : isB S.l k = true → (nd S.l k).v ≤ (nd S.l j).v := by
  induction hr with
  | here => exact fun _ => Nat.le_refl _
  | low h2 _ ih =>
    intro hk
    obtain ⟨_, _, a, _, b, _⟩ := hW.kid _ h2 hk
    exact Nat.le_trans (Nat.le_of_lt b) (ih a)
  | high h2 _ ih =>
    intro hk
    obtain ⟨_, _, _, a, _, b⟩ := hW.kid _ h2 hk
    exact Nat.le_trans (Nat.le_of_lt b) (ih a)
theorem cntS_or (a b : Nat → Bool) (n : Nat) : cntS (fun j => a j || b j) n ≤ cntS a n + cntS b n ∧ cntS a n ≤ cntS (fun j => a j || b j) n ∧ cntS b n ≤ cntS (fun j => a j || b j) n := by
  unfold cntS
  induction n with
  | zero => simp
  | succ n ih =>
    obtain ⟨h1, h2, h3⟩ := ih
    rw [List.range_succ, List.countP_append, List.countP_append, List.countP_append]
    cases ha : a n <;> cases hb : b n <;> simp [ha, hb] <;> omega
/-- of how many nodes a node is, against its low and its high -/
theorem sizes {S : NS} (hW : Wf S) {k : Nat} (h2 : 2 ≤ k) (hk : isB S.l k = true) {s a b : Nat → Bool} (hs : Adds S.l k (fun _ => false) s) (ha : Adds S.l (nd S.l k).low (fun _ => false) a) (hb : Adds S.l (nd S.l k).high (fun _ => false) b) :
    cntS s S.l.length ≤ cntS a S.l.length + cntS b S.l.length + 1 ∧ cntS a S.l.length < cntS s S.l.length ∧ cntS b S.l.length < cntS s S.l.length := by
  obtain ⟨_, _, hl, hh, hvl, hvh⟩ := hW.kid k h2 hk
  have ha' : ∀ j, a j = true ↔ Rc S.l (nd S.l k).low j := fun j => by rw [ha j]; simp
  have hb' : ∀ j, b j = true ↔ Rc S.l (nd S.l k).high j := fun j => by rw [hb j]; simp
  have hno : (a k || b k) = false := by
    cases h1 : a k with
    | true => have := rc_v hW ((ha' k).1 h1) hl; omega
    | false =>
      cases h3 : b k with
      | true => have := rc_v hW ((hb' k).1 h3) hh; omega
      | false => rfl
  have e : cntS s S.l.length = cntS (setB (fun j => a j || b j) k) S.l.length := cntS_congr _ (fun j => by
    rw [hs j]
    unfold setB
    simp only [Bool.false_eq_true, false_or, Bool.or_eq_true, beq_iff_eq, ha', hb']
    constructor
    · intro h
      cases h with
      | here => exact .inr rfl
      | low _ h => exact .inl (.inl h)
      | high _ h => exact .inl (.inr h)
    · rintro ((h | h) | rfl)
      · exact .low h2 h
      · exact .high h2 h
      · exact .here _)
  rw [e, cntS_set (isB_lt hk) hno]
  obtain ⟨h1, h3, h4⟩ := cntS_or a b S.l.length
  omega
theorem rho_set (l : List Bool) (v : Nat) (b : Bool) (hv : v < l.length) : rho (l.set v b) v = b := by
  unfold rho
  rw [List.getD_eq_getElem?_getD, List.getElem?_set_self hv]; rfl
/-- Eval, the variable of the node false, then true -/
theorem split_ev {S : NS} (hW : Wf S) {k : Nat} (h2 : 2 ≤ k) (hk : isB S.l k = true) (l : List Bool) (hl : (nd S.l k).v < l.length) :
    evB S (l.set (nd S.l k).v false) (k : Int) = evB S (l.set (nd S.l k).v false) ((nd S.l k).low : Int) ∧ evB S (l.set (nd S.l k).v true) (k : Int) = evB S (l.set (nd S.l k).v true) ((nd S.l k).high : Int) := by
  obtain ⟨_, _, hlo, hhi, _, _⟩ := hW.kid k h2 hk
  unfold evB
  rw [isK_nat, isK_nat, isK_nat, hk, hlo, hhi]
  simp only [if_true, Int.toNat_natCast]
  rw [den_step hW _ h2 hk, den_step hW (rho (l.set (nd S.l k).v true)) h2 hk]
  unfold nxt
  rw [rho_set l _ false hl, rho_set l _ true hl]
  exact ⟨rfl, rfl⟩
theorem findE_of {S : NS} {k : Nat} (h : isB S.l k = true) : findE S (k : Int) = 0 := by unfold findE; rw [isK_nat, h]; rfl
theorem nsize_yes (w : World) (B p : Nat) (S : NS) (h : Sto w B p S) (k : Nat) (hk : isB S.l k = true) : Calls Try.prog 32 #[.pointer (some ⟨p, 0, none⟩), .int .i64 (k : Int)] w fun e w' => ∃ (n : Nat) (s : Nat → Bool), e = .returned (.tuple #[.int .i64 (n : Int), .int .i64 0]) ∧ Adds S.l k (fun _ => false) s ∧ n = cntS s S.l.length ∧ Below w.heap.size w w' :=
  (nsize_ok w B p S h k).mono fun e w' ⟨⟨n, he, _, hs⟩, hb⟩ => by
    obtain ⟨s, h1, h2⟩ := hs (by rw [isK_nat]; exact hk)
    exact ⟨n, s, by rw [he, findE_of hk], h1, h2, hb⟩
/-- the cells of l[v] = b -/
theorem vals_set (x0 x1 x2 x3 : Bool) (v : Nat) (b : Bool) : (#[Value.bool x0, .bool x1, .bool x2, .bool x3].setIfInBounds v (.bool b)).toList = ([x0, x1, x2, x3].set v b).map Value.bool := by
  simp [List.map_set]
set_option maxRecDepth 100000 in
set_option maxHeartbeats 8000000 in
theorem nodeSplits_walk (w : World) (a : Int) (_wa : (Lit.int .i64 a).wf = true) (b : Int) (_wb : (Lit.int .i64 b).wf = true) : Calls Try.prog 10 #[.int .i64 a, .int .i64 b] w (Fine w) := by
  go_enter Try.func10, Try.ntmps10
  go_wp2_with fail
  refine (nnewc w w.heap.size (Nat.le_refl _) 4 200 new4).mono ?_
  rintro e w1 ⟨p, rfl, hs1, hb1, _⟩
  have HS1 := Lib.hid (show Sto w1 w.heap.size p (newS 4 200) from hs1); have HB1 := Lib.hid hb1
  clear hs1 hb1
  go_wp2_with fail
  refine (bits_ok w1 a).mono ?_
  rintro e w2 ⟨xa, xc, rfl, hx2, hb2⟩
  have HX2 := Lib.hid hx2; have HS2 := Lib.hid (HS1.out.below hb2); have HB2 := Lib.hid (HB1.out.trans (hb2.mono HB1.out.size))
  clear hx2 hb2
  go_wp2_with fail
  refine (table_ok w.heap.size p xa w1.heap.size xc (bitsL a) (bitsL_len a) 4 0 w2 (newS 4 200) 0 rfl (by decide) HS2.out HB2.out.size rfl (by decide) HX2.out).mono ?_
  rintro e w3 ⟨S, k0, rfl, hs3, hk3, ht1⟩
  have HS3 := Lib.hid hs3
  have HB3 := Lib.hid (HB2.out.trans (hk3.low HB2.out.size))
  have HW := Lib.hid ht1.wf
  have HV := Lib.hid (show S.vars = 4 from ht1.ext.vars)
  have HK0 := Lib.hid ht1.is
  clear hs3 hk3 ht1
  go_wp2_with fail
  go_loopg [7] (4 - (nd S.l k0).v) (fun m x wr => ∃ k : Nat, x = .int .i64 (k : Int) ∧ isB S.l k = true ∧ m + (nd S.l k).v = 4 ∧ Below w3.heap.size w3 wr)
  case atStart => exact ⟨k0, rfl, HK0.out, by have := HW.out.vle HK0.out; rw [HV.out] at this; omega, Below.refl _ _⟩
  case round =>
    obtain ⟨k, rfl, hk, hm, hb⟩ := hrel
    have HK := Lib.hid hk; have HM := Lib.hid hm; have HB := Lib.hid hb
    clear hk hm hb
    by_cases h2 : 2 ≤ k
    · have hkid := HW.out.kid k h2 HK.out
      rw [HV.out] at hkid
      have hask : askV S (k : Int) = .tuple #[.int .i64 ((nd S.l k).v : Int), .int .i64 ((nd S.l k).low : Int), .int .i64 ((nd S.l k).high : Int), .int .i64 0] := by unfold askV; rw [isK_nat, HK.out]; rfl
      have hse := split_ev HW.out h2 HK.out (valsL b) (show _ < 4 from hkid.1)
      have HKID := Lib.hid hkid
      obtain ⟨v, hv⟩ : ∃ v, v = (nd S.l k).v := ⟨_, rfl⟩
      obtain ⟨lo, hlo⟩ : ∃ v, v = (nd S.l k).low := ⟨_, rfl⟩
      obtain ⟨hi, hhi⟩ : ∃ v, v = (nd S.l k).high := ⟨_, rfl⟩
      rw [← hv, ← hlo, ← hhi] at hask hse
      have HASK := Lib.hid hask; have HSE := Lib.hid hse; have HVV := Lib.hid hv; have HLO := Lib.hid hlo; have HHI := Lib.hid hhi
      have hv4 : v < 4 := by rw [hv]; exact hkid.1
      have hne : lo ≠ hi := by rw [hlo, hhi]; exact hkid.2.1
      have dne : ((lo : Int) == (hi : Int)) = false := beq_eq_false_iff_ne.2 (by omega)
      have dk : decide ((1 : Int) < (k : Int)) = true := decide_eq_true (by omega)
      have HIL := Lib.hid (show isB S.l lo = true by rw [hlo]; exact hkid.2.2.1)
      have HIH := Lib.hid (show isB S.l hi = true by rw [hhi]; exact hkid.2.2.2.1)
      clear hkid hask hse hv hlo hhi hne
      go_wp2_with fail
      refine (nask_ok wr w.heap.size p S (HS3.out.below HB.out) (k : Int)).mono ?_
      rintro e w4 ⟨rfl, nq, hw4⟩
      rw [HASK.out]
      have HB4 : Hid (Below w3.heap.size w3 w4) := by rw [hw4]; exact Lib.hid (HB.out.trans ((bdN' wr nq).mono HB.out.size))
      clear hw4
      go_wp2_with fail
      refine (values_ok w4 b).mono ?_
      rintro e w5 ⟨vb, rfl, hv5, hvb, hb5⟩
      have HB5 := Lib.hid (HB4.out.trans (hb5.mono HB4.out.size))
      have hvb3 : w3.heap.size ≤ vb := by have := HB4.out.size; omega
      obtain ⟨y, hy⟩ : ∃ y, w5.cell? ⟨vb, v, none⟩ = some (.bool y) := by
        have : v = 0 ∨ v = 1 ∨ v = 2 ∨ v = 3 := by omega
        rcases this with rfl | rfl | rfl | rfl
        · exact ⟨_, hv5.cell 0⟩
        · exact ⟨_, hv5.cell 1⟩
        · exact ⟨_, hv5.cell 2⟩
        · exact ⟨_, hv5.cell 3⟩
      have hvf : w5.frozen? ⟨vb, v, none⟩ = false := hv5.frozen v
      have hvl : vb < w5.heap.size := hv5.lt
      have HV6 := Lib.hid (hv5.set_ v (.bool false))
      have HB6 := Lib.hid (HB5.out.setCell (p := ⟨vb, v, none⟩) hvb3 (.bool false))
      have HC6 : Hid (Cells (w5.setCell ⟨vb, v, none⟩ (.bool false)) (some ⟨vb, 0, none⟩) (((valsL b).set v false).map Value.bool)) := by
        have h := HV6.out.cells_
        rw [vals_set] at h
        exact Lib.hid h
      have hln : ((valsL b).set v false).length = 4 := by simp [valsL]
      have hln2 : ((valsL b).set v true).length = 4 := by simp [valsL]
      have hmx : (4 : Nat) ≤ maxLen := by unfold maxLen; omega
      have HEV := Lib.hid (fun (W : World) (kk : Int) (hB : Below w3.heap.size w3 W) (hC : Cells W (some ⟨vb, 0, none⟩) (((valsL b).set v false).map Value.bool)) => neval_ok W w.heap.size p S (HS3.out.below hB) kk (some ⟨vb, 0, none⟩) ((valsL b).set v false) 4 (by rw [hln]; exact hmx) hC)
      have HEV2 := Lib.hid (fun (W : World) (kk : Int) (hB : Below w3.heap.size w3 W) (hC : Cells W (some ⟨vb, 0, none⟩) (((valsL b).set v true).map Value.bool)) => neval_ok W w.heap.size p S (HS3.out.below hB) kk (some ⟨vb, 0, none⟩) ((valsL b).set v true) 4 (by rw [hln2]; exact hmx) hC)
      rw [hln] at HEV
      rw [hln2] at HEV2
      clear hv5 hb5 hvb hln hln2 hmx
      go_wp2_with fail
      refine (HEV.out _ (k : Int) HB6.out HC6.out).mono ?_
      rintro e w7 ⟨rfl, hb7⟩
      rw [findE_of HK.out, HSE.out.1]
      have HB7 := Lib.hid (HB6.out.trans (hb7.mono HB6.out.size)); have HV7 := Lib.hid (HV6.out.below hb7 HV6.out.lt)
      have HC7 := Lib.hid (HC6.out.below hb7)
      clear hb7
      go_wp2_with fail
      refine (HEV.out _ (lo : Int) HB7.out HC7.out).mono ?_
      rintro e w8 ⟨rfl, hb8⟩
      rw [findE_of HIL.out]
      have HB8 := Lib.hid (HB7.out.trans (hb8.mono HB7.out.size)); have HV8 := Lib.hid (HV7.out.below hb8 HV7.out.lt)
      obtain ⟨y2, hy2⟩ : ∃ y, w8.cell? ⟨vb, v, none⟩ = some (.bool y) := by
        have : v = 0 ∨ v = 1 ∨ v = 2 ∨ v = 3 := by omega
        have h := HV8.out.cell v
        rcases this with rfl | rfl | rfl | rfl <;> exact ⟨_, h⟩
      have hvf2 : w8.frozen? ⟨vb, v, none⟩ = false := HV8.out.frozen v
      have hvl2 : vb < w8.heap.size := HV8.out.lt
      have HV9 := Lib.hid (HV8.out.set_ v (.bool true))
      have HB9 := Lib.hid (HB8.out.setCell (p := ⟨vb, v, none⟩) hvb3 (.bool true))
      have HC9 : Hid (Cells (w8.setCell ⟨vb, v, none⟩ (.bool true)) (some ⟨vb, 0, none⟩) (((valsL b).set v true).map Value.bool)) := by
        have h := HV9.out.cells_
        have e : ((#[.bool (bt b 0), .bool (bt b 1), .bool (bt b 2), .bool (bt b 3)] : Array Value).setIfInBounds v (.bool false) |>.setIfInBounds v (.bool true)).toList = ((valsL b).set v true).map Value.bool := by
          simp [List.map_set, valsL]
        rw [e] at h
        exact Lib.hid h
      clear hb8 hy hvf hvl
      go_wp2_with fail
      refine (HEV2.out _ (k : Int) HB9.out HC9.out).mono ?_
      rintro e w10 ⟨rfl, hb10⟩
      rw [findE_of HK.out, HSE.out.2]
      have HB10 := Lib.hid (HB9.out.trans (hb10.mono HB9.out.size)); have HC10 := Lib.hid (HC9.out.below hb10)
      clear hb10
      go_wp2_with fail
      refine (HEV2.out _ (hi : Int) HB10.out HC10.out).mono ?_
      rintro e w11 ⟨rfl, hb11⟩
      rw [findE_of HIH.out]
      have HB11 := Lib.hid (HB10.out.trans (hb11.mono HB10.out.size))
      clear hb11
      go_wp2_with fail
      refine (nsize_yes w11 w.heap.size p S (HS3.out.below HB11.out) k HK.out).mono ?_
      rintro e w12 ⟨m, sm, rfl, hsm, hm, hb12⟩
      have HB12 := Lib.hid (HB11.out.trans (hb12.mono HB11.out.size)); have HSM := Lib.hid hsm; have HMM := Lib.hid hm
      clear hb12 hsm hm
      go_wp2_with fail
      refine (nsize_yes w12 w.heap.size p S (HS3.out.below HB12.out) lo HIL.out).mono ?_
      rintro e w13 ⟨mx, sx, rfl, hsx, hmx, hb13⟩
      have HB13 := Lib.hid (HB12.out.trans (hb13.mono HB12.out.size)); have HSX := Lib.hid hsx; have HMX := Lib.hid hmx
      clear hb13 hsx hmx
      go_wp2_with fail
      refine (nsize_yes w13 w.heap.size p S (HS3.out.below HB13.out) hi HIH.out).mono ?_
      rintro e w14 ⟨my, sy, rfl, hsy, hmy, hb14⟩
      have HB14 := Lib.hid (HB13.out.trans (hb14.mono HB13.out.size))
      have hsz := sizes HW.out h2 HK.out HSM.out (by rw [← HLO.out]; exact HSX.out) (by rw [← HHI.out]; exact hsy)
      rw [← HMM.out, ← HMX.out, ← hmy] at hsz
      have hlm := HW.out.lm
      have hmb : m ≤ 1048576 := by rw [HMM.out]; have := cntS_le sm S.l.length; omega
      have hxb : mx ≤ 1048576 := by omega
      have hyb : my ≤ 1048576 := by omega
      have ds : decide ((mx : Int) + (my : Int) + 1 < (m : Int)) = false := decide_eq_false (by omega)
      obtain ⟨mz, hmz⟩ : ∃ mz : Nat, (if mx < my then (my : Int) else (mx : Int)) = (mz : Int) := ⟨if mx < my then my else mx, by split <;> rfl⟩
      have hmzl : mz < m := by split at hmz <;> omega
      have dm : decide ((m : Int) ≤ (mz : Int)) = false := decide_eq_false (by omega)
      clear hb14 hsy hmy hsz hlm hy2 hvf2 hvl2 hmb
      have hvlo : (nd S.l k).v < (nd S.l lo).v ∧ (nd S.l lo).v ≤ 4 := ⟨by rw [HLO.out]; exact HKID.out.2.2.2.2.1, by have := HW.out.vle HIL.out; rw [HV.out] at this; exact this⟩
      have hvhi : (nd S.l k).v < (nd S.l hi).v ∧ (nd S.l hi).v ≤ 4 := ⟨by rw [HHI.out]; exact HKID.out.2.2.2.2.2, by have := HW.out.vle HIH.out; rw [HV.out] at this; exact this⟩
      have HVL := Lib.hid hvlo; have HVH := Lib.hid hvhi
      clear hvlo hvhi
      cases hb1 : (bits .and .i64 b 1 == 0) with
      | true =>
        go_wp2_with fail
        all_goals
          go_roundg (4 - (nd S.l lo).v)
          case measure => have := HM.out; have := HVL.out; omega
          case rel => exact ⟨lo, rfl, HIL.out, by have := HVL.out; omega, HB14.out⟩
      | false =>
        go_wp2_with fail
        all_goals
          go_roundg (4 - (nd S.l hi).v)
          case measure => have := HM.out; have := HVH.out; omega
          case rel => exact ⟨hi, rfl, HIH.out, by have := HVH.out; omega, HB14.out⟩
    · have dk : decide ((1 : Int) < (k : Int)) = false := decide_eq_false (by omega)
      have hask : askV S (k : Int) = .tuple #[.int .i64 4, .int .i64 (k : Int), .int .i64 (k : Int), .int .i64 0] := by
        unfold askV; rw [isK_nat, HK.out, Int.toNat_natCast]
        have hk01 : k = 0 ∨ k = 1 := by omega
        rcases hk01 with rfl | rfl
        · obtain ⟨q, hq⟩ := HW.out.z
          rw [hq, HV.out]; rfl
        · obtain ⟨q, hq⟩ := HW.out.o
          rw [hq, HV.out]; rfl
      have HASK := Lib.hid hask
      clear hask
      go_wp2_with fail
      refine (nask_ok wr w.heap.size p S (HS3.out.below HB.out) (k : Int)).mono ?_
      rintro e w4 ⟨rfl, nq, hw4⟩
      rw [HASK.out]
      have HB4 : Hid (Below w.heap.size w w4) := by rw [hw4]; exact Lib.hid (HB3.out.trans ((HB.out.trans ((bdN' wr nq).mono HB.out.size)).mono HB3.out.size))
      clear hw4
      go_wp2_with fail
      refine (awake03 w4).mono ?_
      rintro e w5 ⟨rfl, hb5⟩
      go_wp2_with fail
      go_ret
      exact ⟨rfl, HB4.out.trans (hb5.mono HB4.out.size)⟩
end Go.Proofs.Ytdalnhhenahcjaa

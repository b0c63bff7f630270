/- The contract of clone.right; in plain Lean what Way and Context answer (wayR, ctxR). -/
import Derived.Test.YtbancojknahdgaaCloneC
import Derived.Test.YtbancojknahdgaaCloneE
namespace Go.Proofs.Ytbancojknahdgaa
open Go.RowKit CP
theorem equal_ok (w : World) (a b : Option Addr) (ca cb : Nat) (l m : List Int) (hl : l.length ≤ maxLen) (hm : m.length ≤ maxLen) (hc : Cells w a (zV l)) (hd : Cells w b (zV m)) :
    Calls Try.prog 63 #[.slice a l.length ca, .slice b m.length cb] w (Tells (l == m) w) := by
  unfold maxLen at hl hm
  by_cases h : l.length = m.length
  · by_cases h0 : l = []
    · subst h0
      have hm0 : m = [] := List.length_eq_zero_iff.1 h.symm
      subst hm0
      exact (Try.slices_Equal_int_empty a b ca 0 cb w (by omega)).mono fun e w' h => ⟨h.1, 0, h.2⟩
    · have h1 : m ≠ [] := fun e => h0 (List.length_eq_zero_iff.1 (by rw [h, e]; rfl))
      obtain ⟨b1, o1, rfl, _, _⟩ := hc (by unfold zV; simpa using h0)
      obtain ⟨b2, o2, rfl, _, _⟩ := hd (by unfold zV; simpa using h1)
      refine (Try.slices_Equal_int b1 o1 l.length ca b2 o2 m.length cb l m w (Nat.le_refl _) (Nat.le_refl _) (by omega) (by omega) hc.getD hd.getD).mono fun e w' h => ?_
      rw [List.take_length, List.take_length] at h
      exact h
  · have e : (l == m) = false := beq_eq_false_iff_ne.2 fun e => h (by rw [e])
    rw [e]
    exact (Try.slices_Equal_int_lens a b l.length ca m.length cb w h).mono fun e w' h => ⟨h.1, 0, h.2⟩
set_option maxRecDepth 100000 in
theorem r1_ok (w : World) (x : Int × Int × Int) : Calls Try.prog 62 #[edgeV x, edgeV x] w fun e w' => e = .returned (.bool true) ∧ Below w.heap.size w w' := by
  obtain ⟨x0, x1, x2⟩ := x
  have HB : Hid (∀ o1 o2, Below w.heap.size w ((w.alloc o1).alloc o2)) := Lib.hid (fun o1 o2 => ((Below.refl _ _).alloc (Nat.le_refl _) _).alloc (by simp) _)
  unfold edgeV
  simp only
  go_enter Try.func62, Try.ntmps62
  go_wp2_with fail
  go_ret
  exact ⟨by simp, HB.out _ _⟩
theorem call_r1 (args : Array Value) (w : World) : (callFunc 62 args).run Try.prog w = .ok (.enter 62 args) w := MuLone.run_callFunc_enter Try.func62 (by kernel_rfl) rfl args w
set_option maxRecDepth 100000 in
set_option maxHeartbeats 1600000 in
theorem eqfunc_ok (w : World) (a b : Option Addr) (ca cb : Nat) (es : List (Int × Int × Int)) (hl : es.length ≤ maxLen) (hc : Cells w a (es.flatMap keyCells)) (hd : Cells w b (es.flatMap keyCells)) :
    Calls Try.prog 64 #[.slice a es.length ca, .slice b es.length cb, .func (.func 62) #[] #[]] w fun e w' => e = .returned (.bool true) ∧ Below w.heap.size w w' := by
  unfold maxLen at hl
  obtain ⟨N, hN⟩ : ∃ N, es.length = N := ⟨_, rfl⟩
  have HN := Lib.hid hN; have HC := Lib.hid hc; have HD := Lib.hid hd
  rw [hN] at hl ⊢
  clear hN hc hd
  have hcall := call_r1
  go_enter Try.func64, Try.ntmps64
  go_wp2_with fail
  go_loopg [17] N (fun m x wr => ∃ i : Nat, m + i = N ∧ x = .int .i64 (i : Int) ∧ Below w.heap.size w wr)
  case atStart => exact ⟨0, rfl, rfl, Below.refl _ _⟩
  case round =>
    obtain ⟨i, hm2, rfl, hb⟩ := hrel
    have HM := Lib.hid hm2; have HB := Lib.hid hb
    clear hm2 hb
    by_cases hi : i < N
    · obtain ⟨x, hx⟩ : ∃ x, es[i]? = some x := ⟨_, List.getElem?_eq_getElem (by rw [HN.out]; exact hi)⟩
      obtain ⟨b1, o1, rfl, hl1, k0, k1, k2⟩ := (HC.out.below HB.out).key hx
      obtain ⟨b2, o2, rfl, hl2, q0, q1, q2⟩ := (HD.out.below HB.out).key hx
      have HR := Lib.hid (fun W => r1_ok W x)
      obtain ⟨x0, x1, x2⟩ := x
      unfold edgeV at HR
      simp only at k0 k1 k2 q0 q1 q2 HR
      clear hx
      have HB2 := Lib.hid (HB.out.trans ((((Below.refl wr.heap.size wr).alloc (Nat.le_refl _) (.cells #[.int .i64 x0, .int .i64 x1, .int .i64 x2] 50)).alloc (by simp) (.cells #[.int .i64 x0, .int .i64 x1, .int .i64 x2] 50)).mono HB.out.size))
      go_wp2_with fail
      refine (HR.out _).mono ?_
      rintro e w3 ⟨rfl, hb3⟩
      have HB3 := Lib.hid (HB2.out.trans (hb3.mono HB2.out.size))
      clear hb3 HB2 HR
      go_wp2_with fail
      go_roundg (N - (i + 1))
      case measure => have := HM.out; omega
      case rel => exact ⟨i + 1, by have := HM.out; omega, by go_num, HB3.out⟩
    · go_wp2_with fail
      go_ret
      exact ⟨rfl, HB.out⟩
/-- are contexts numbered as they must? -/
noncomputable def rightB (c : Cl) (main : Int) : Bool :=
  mayC (c.comp.length : Int) main c.edges 62 && fitC c.comp.length main.toNat c.edges 62 && (c.comp == (numC c.comp.length main.toNat c.edges).comp) && (c.count == (numC c.comp.length main.toNat c.edges).count) && (c.add == (numC c.comp.length main.toNat c.edges).add)
structure ClLen (c : Cl) : Prop where
  comp : c.comp.length ≤ 16384
  count : c.count.length ≤ 16384
  edges : c.edges.length ≤ 16384
  add : c.add.length ≤ 16384
set_option maxRecDepth 100000 in
set_option maxHeartbeats 6400000 in
theorem right_ok (w : World) (v : Value) (c : Cl) (main : Int) (h : ClAt w v c) (hl : ClLen c) :
    Calls Try.prog 44 #[v, .int .i64 main] w fun e w' => e = .returned (.bool (rightB c main)) ∧ Below w.heap.size w w' := by
  obtain ⟨a1, c1, a2, c2, a3, c3, a4, c4, rfl, h1, h2, h3, h4⟩ := h
  obtain ⟨c4, hc4⟩ : ∃ k, c.add.length + c4 = k := ⟨_, rfl⟩
  rw [hc4]
  clear hc4
  obtain ⟨w1, hw1⟩ : ∃ w1, w1 = w.alloc (.cells #[.slice a1 c.comp.length c1, .slice a2 c.count.length c2, .slice a3 c.edges.length c3, .slice a4 c.add.length c4] 27) := ⟨_, rfl⟩
  have hb1 : Below w.heap.size w w1 := by rw [hw1]; exact (Below.refl _ _).alloc (Nat.le_refl _) _
  obtain ⟨g, hg⟩ : ∃ g, g = w.heap.size := ⟨_, rfl⟩
  have k1 : Blk w1 g 27 #[.slice a1 c.comp.length c1, .slice a2 c.count.length c2, .slice a3 c.edges.length c3, .slice a4 c.add.length c4] := by rw [hw1, hg]; exact Blk.new_ _ _ _
  have HNU := Lib.hid (number_ok w1 (c.comp.length : Int) main a3 c.edges c3 62 (by have := hl.edges; unfold maxLen; omega) (h3.below hb1))
  have HR0 : Hid (rightB c main = (mayC (c.comp.length : Int) main c.edges 62 && fitC c.comp.length main.toNat c.edges 62 && (c.comp == (numC c.comp.length main.toNat c.edges).comp) && (c.count == (numC c.comp.length main.toNat c.edges).count) && (c.add == (numC c.comp.length main.toNat c.edges).add))) := Lib.hid rfl
  have hl1 := hl.comp; have hl2 := hl.count; have hl3 := hl.edges; have hl4 := hl.add
  have H1 := Lib.hid (h1.below hb1); have H2 := Lib.hid (h2.below hb1); have H3 := Lib.hid (h3.below hb1); have H4 := Lib.hid (h4.below hb1)
  obtain ⟨cs, cn, es, ad⟩ := c
  simp only at hl1 hl2 hl3 hl4 k1 HNU HR0 H1 H2 H3 H4 hw1 ⊢
  obtain ⟨n1, hn1⟩ : ∃ n1, cs.length = n1 := ⟨_, rfl⟩
  obtain ⟨n2, hn2⟩ : ∃ n2, cn.length = n2 := ⟨_, rfl⟩
  obtain ⟨n3, hn3⟩ : ∃ n3, es.length = n3 := ⟨_, rfl⟩
  obtain ⟨n4, hn4⟩ : ∃ n4, ad.length = n4 := ⟨_, rfl⟩
  rw [hn1, hn2, hn3, hn4] at k1 hw1 ⊢
  rw [hn1, hn3] at HNU
  rw [hn1] at HR0 hl1
  rw [hn2] at hl2
  rw [hn3] at hl3
  rw [hn4] at hl4
  have HW1 := Lib.hid hw1; have HG := Lib.hid hg; have HB1 := Lib.hid hb1
  have p0 : w1.cell? ⟨g, 0, none⟩ = some (.slice a1 n1 c1) := k1.cell 0
  have p2 : w1.cell? ⟨g, 2, none⟩ = some (.slice a3 n3 c3) := k1.cell 2
  have pl := k1.lt
  have HK1 := Lib.hid k1
  have HN1 := Lib.hid hn1; have HN2 := Lib.hid hn2; have HN3 := Lib.hid hn3; have HN4 := Lib.hid hn4
  clear h1 h2 h3 h4 hl hw1 hg hb1 k1 hn1 hn2 hn3 hn4
  go_enter Try.func44, Try.ntmps44
  go_upto_region 1 with (fail)
  rw [← HW1.out]
  try rw [← HG.out]
  go_wp2_with fail
  refine HNU.out.mono ?_
  rintro e w2 ⟨hb2, h | ⟨k, mn, wn, hk, hm, hw, hMay, h⟩⟩
  · obtain ⟨hmay, rfl⟩ := h
    have HB2 := Lib.hid (HB1.out.trans (hb2.mono HB1.out.size))
    have HRF : Hid (rightB ⟨cs, cn, es, ad⟩ main = false) := Lib.hid (by rw [HR0.out, hmay]; rfl)
    unfold clNil
    clear hmay hb2 p0 p2 pl HNU
    go_wp2_with fail
    go_ret
    exact ⟨by rw [HRF.out]; rfl, HB2.out.alloc HB2.out.size _⟩
  · obtain rfl : n1 = k := by omega
    subst hm
    have hwn : wn = 62 := by omega
    subst hwn
    rw [Int.toNat_natCast] at HR0
    have hmay := mayN_to hMay
    rw [show ((62 : Nat) : Int) = 62 from rfl] at hmay
    rw [hmay, Bool.true_and] at HR0
    rcases h with ⟨hf, rfl⟩ | ⟨hf, v, rfl, hcl⟩
    · have HB2 := Lib.hid (HB1.out.trans (hb2.mono HB1.out.size))
      have HRF : Hid (rightB ⟨cs, cn, es, ad⟩ (mn : Int) = false) := Lib.hid (by rw [HR0.out, hf]; rfl)
      unfold clNil
      clear hmay hf hb2 p0 p2 pl HNU hk hw
      go_wp2_with fail
      go_ret
      exact ⟨by rw [HRF.out]; rfl, HB2.out.alloc HB2.out.size _⟩
    · rw [hf, Bool.true_and] at HR0
      obtain ⟨e1, d1, e2, d2, e3, d3, e4, d4, rfl, g1, g2, g3, g4⟩ := hcl
      have hDe : (numC n1 mn es).edges = es := rfl
      rw [hDe] at g3 ⊢
      have hDl1 : (numC n1 mn es).comp.length ≤ 16384 := by
        show (cmpZ n1 (edE es)).length ≤ 16384
        rw [cmpZ_len]; exact hl1
      have hDl2 : (numC n1 mn es).count.length ≤ 16384 := by
        show ((List.range n1).map _).length ≤ 16384
        rw [List.length_map, List.length_range]; exact hl1
      have hDl4 : (numC n1 mn es).add.length ≤ 16384 := by
        show ((List.range es.length).map _).length ≤ 16384
        rw [List.length_map, List.length_range, HN3.out]; exact hl3
      obtain ⟨Dc, hDc⟩ : ∃ Dc, (numC n1 mn es).comp = Dc := ⟨_, rfl⟩
      obtain ⟨Dn, hDn⟩ : ∃ Dn, (numC n1 mn es).count = Dn := ⟨_, rfl⟩
      obtain ⟨Da, hDa⟩ : ∃ Da, (numC n1 mn es).add = Da := ⟨_, rfl⟩
      rw [hDc, hDn, hDa] at HR0
      rw [hDc] at g1 hDl1 ⊢
      rw [hDn] at g2 hDl2 ⊢
      rw [hDa] at g4 hDl4 ⊢
      rw [HN3.out]
      obtain ⟨m1, hm1⟩ : ∃ m1, Dc.length = m1 := ⟨_, rfl⟩
      obtain ⟨m2, hm2⟩ : ∃ m2, Dn.length = m2 := ⟨_, rfl⟩
      obtain ⟨m4, hm4⟩ : ∃ m4, Da.length = m4 := ⟨_, rfl⟩
      rw [hm1, hm2, hm4]
      obtain ⟨d4, hd4⟩ : ∃ k, m4 + d4 = k := ⟨_, rfl⟩
      rw [hd4]
      clear hd4
      obtain ⟨w3, hw3⟩ : ∃ w3, w3 = w2.alloc (.cells #[.slice e1 m1 d1, .slice e2 m2 d2, .slice e3 n3 d3, .slice e4 m4 d4] 27) := ⟨_, rfl⟩
      obtain ⟨g0, hg0⟩ : ∃ g0, g0 = w2.heap.size := ⟨_, rfl⟩
      have hb3 : Below w2.heap.size w2 w3 := by rw [hw3]; exact (Below.refl _ _).alloc (Nat.le_refl _) _
      have hb13 : Below w1.heap.size w1 w3 := hb2.trans (hb3.mono hb2.size)
      have k3 : Blk w3 g0 27 #[.slice e1 m1 d1, .slice e2 m2 d2, .slice e3 n3 d3, .slice e4 m4 d4] := by rw [hw3, hg0]; exact Blk.new_ _ _ _
      have kc := HK1.out.below hb13 HK1.out.lt
      have HB3 := Lib.hid (HB1.out.trans (hb13.mono HB1.out.size))
      have HE1 : Hid (∀ q, Calls Try.prog 63 #[.slice a1 n1 c1, .slice e1 m1 d1] (w3.drewN q) (Tells (cs == Dc) (w3.drewN q))) := Lib.hid (fun q => by
        have h := equal_ok (w3.drewN q) a1 e1 c1 d1 cs Dc (by rw [HN1.out]; unfold maxLen; omega) (by unfold maxLen; omega) ((H1.out.below hb13).drewN_ q) ((g1.below hb3).drewN_ q)
        rw [HN1.out, hm1] at h; exact h)
      have HE2 : Hid (∀ q, Calls Try.prog 63 #[.slice a2 n2 c2, .slice e2 m2 d2] (w3.drewN q) (Tells (cn == Dn) (w3.drewN q))) := Lib.hid (fun q => by
        have h := equal_ok (w3.drewN q) a2 e2 c2 d2 cn Dn (by rw [HN2.out]; unfold maxLen; omega) (by unfold maxLen; omega) ((H2.out.below hb13).drewN_ q) ((g2.below hb3).drewN_ q)
        rw [HN2.out, hm2] at h; exact h)
      have HE4 : Hid (∀ q, Calls Try.prog 63 #[.slice a4 n4 c4, .slice e4 m4 d4] (w3.drewN q) (Tells (ad == Da) (w3.drewN q))) := Lib.hid (fun q => by
        have h := equal_ok (w3.drewN q) a4 e4 c4 d4 ad Da (by rw [HN4.out]; unfold maxLen; omega) (by unfold maxLen; omega) ((H4.out.below hb13).drewN_ q) ((g4.below hb3).drewN_ q)
        rw [HN4.out, hm4] at h; exact h)
      have HE3 : Hid (∀ q, Calls Try.prog 64 #[.slice a3 n3 c3, .slice e3 n3 d3, .func (.func 62) #[] #[]] (w3.drewN q) fun e w' => e = .returned (.bool true) ∧ Below (w3.drewN q).heap.size (w3.drewN q) w') := Lib.hid (fun q => by
        have h := eqfunc_ok (w3.drewN q) a3 e3 c3 d3 es (by rw [HN3.out]; unfold maxLen; omega) ((H3.out.below hb13).drewN_ q) ((g3.below hb3).drewN_ q)
        rw [HN3.out] at h; exact h)
      have HBD : Hid (∀ q, Below w.heap.size w (w3.drewN q)) := Lib.hid (fun q => HB3.out.trans ((drew_below w3 q).mono HB3.out.size))
      have u0 : w3.cell? ⟨g, 0, none⟩ = some (.slice a1 n1 c1) := kc.cell 0
      have u1 : w3.cell? ⟨g, 1, none⟩ = some (.slice a2 n2 c2) := kc.cell 1
      have u2 : w3.cell? ⟨g, 2, none⟩ = some (.slice a3 n3 c3) := kc.cell 2
      have u3 : w3.cell? ⟨g, 3, none⟩ = some (.slice a4 n4 c4) := kc.cell 3
      have ul := kc.lt
      have v0 : w3.cell? ⟨g0, 0, none⟩ = some (.slice e1 m1 d1) := k3.cell 0
      have v1 : w3.cell? ⟨g0, 1, none⟩ = some (.slice e2 m2 d2) := k3.cell 1
      have v2 : w3.cell? ⟨g0, 2, none⟩ = some (.slice e3 n3 d3) := k3.cell 2
      have v3 : w3.cell? ⟨g0, 3, none⟩ = some (.slice e4 m4 d4) := k3.cell 3
      have vl := k3.lt
      have HW3 := Lib.hid hw3; have HG0 := Lib.hid hg0
      clear hDe hDc hDn hDa hm1 hm2 hm4 hDl1 hDl2 hDl4 hw3 hg0 hb3 hb13 k3 kc hb2 g1 g2 g3 g4 p0 p2 pl HNU H1 H2 H3 H4 hk hw hmay hf
      go_upto_region 3 with (fail)
      rw [← HW3.out]
      try rw [← HG0.out]
      cases hB1 : (cs == Dc) with
      | false =>
        rw [hB1] at HE1
        have HRF : Hid (rightB ⟨cs, cn, es, ad⟩ (mn : Int) = false) := Lib.hid (by rw [HR0.out, hB1]; rfl)
        clear hB1
        go_wp2_with fail
        refine (HE1.out 0).mono ?_
        rintro e w4 ⟨rfl, q, rfl⟩
        go_wp2_with fail
        go_ret
        exact ⟨by rw [HRF.out]; rfl, HBD.out _⟩
      | true =>
        rw [hB1] at HE1
        rw [hB1, Bool.true_and] at HR0
        clear hB1
        cases hB2 : (cn == Dn) with
        | false =>
          rw [hB2] at HE2
          have HRF : Hid (rightB ⟨cs, cn, es, ad⟩ (mn : Int) = false) := Lib.hid (by rw [HR0.out, hB2]; rfl)
          clear hB2
          go_wp2_with fail
          refine (HE1.out 0).mono ?_
          rintro e w4 ⟨rfl, q, rfl⟩
          go_wp2_with fail
          refine (HE2.out _).mono ?_
          rintro e w5 ⟨rfl, q2, rfl⟩
          go_wp2_with fail
          go_ret
          exact ⟨by rw [HRF.out]; rfl, HBD.out _⟩
        | true =>
          rw [hB2] at HE2
          rw [hB2, Bool.true_and] at HR0
          clear hB2
          cases hB3 : (ad == Da) with
          | false =>
            rw [hB3] at HE4
            have HRF : Hid (rightB ⟨cs, cn, es, ad⟩ (mn : Int) = false) := Lib.hid (by rw [HR0.out, hB3])
            clear hB3
            go_wp2_with fail
            refine (HE1.out 0).mono ?_
            rintro e w4 ⟨rfl, q, rfl⟩
            go_wp2_with fail
            refine (HE2.out _).mono ?_
            rintro e w5 ⟨rfl, q2, rfl⟩
            go_wp2_with fail
            refine (HE4.out _).mono ?_
            rintro e w6 ⟨rfl, q3, rfl⟩
            go_wp2_with fail
            go_ret
            exact ⟨by rw [HRF.out]; rfl, HBD.out _⟩
          | true =>
            rw [hB3] at HE4
            have HRF : Hid (rightB ⟨cs, cn, es, ad⟩ (mn : Int) = true) := Lib.hid (by rw [HR0.out, hB3])
            clear hB3
            go_wp2_with fail
            refine (HE1.out 0).mono ?_
            rintro e w4 ⟨rfl, q, rfl⟩
            go_wp2_with fail
            refine (HE2.out _).mono ?_
            rintro e w5 ⟨rfl, q2, rfl⟩
            go_wp2_with fail
            refine (HE4.out _).mono ?_
            rintro e w6 ⟨rfl, q3, rfl⟩
            go_wp2_with fail
            refine (HE3.out _).mono ?_
            rintro e w7 ⟨rfl, hb7⟩
            have HB7 := Lib.hid ((HBD.out _).trans (hb7.mono (HBD.out _).size))
            clear hb7
            go_wp2_with fail
            go_ret
            exact ⟨by rw [HRF.out]; rfl, HB7.out⟩
end Go.Proofs.Ytbancojknahdgaa
namespace Go.Proofs.Ytbancojknahdgaa
open Go.RowKit CP
section
variable {fc tc : Nat → Nat} {L mc m : Nat}
theorem wayB_fuel (h : Up fc tc L m) : ∀ (f f' a c : Nat), OkS fc tc L mc m a c → a < f → a < f' → wayB fc tc (cntF fc tc L mc m) (addF fc tc L mc m) L mc f a c = wayB fc tc (cntF fc tc L mc m) (addF fc tc L mc m) L mc f' a c
  | 0, _, _, _, _, h0, _ => absurd h0 (Nat.not_lt_zero _)
  | _ + 1, 0, _, _, _, _, h0 => absurd h0 (Nat.not_lt_zero _)
  | f + 1, f' + 1, a, c, hs, h1, h2 => by
    unfold wayB
    by_cases e : a = mc
    · rw [if_pos e, if_pos e]
    · rw [if_neg e, if_neg e]
      obtain ⟨k, hl, _, _, h5, _, h7⟩ := last_ok h hs e
      simp only [hl, Int.toNat_natCast]
      rw [wayB_fuel h f f' _ _ h7 (by omega) (by omega)]
/-- a context's way, its last edge first -/
def wayC (fc tc : Nat → Nat) (L mc m a c : Nat) : List Nat := wayB fc tc (cntF fc tc L mc m) (addF fc tc L mc m) L mc (a + 1) a c
theorem wayC_main (c : Nat) : wayC fc tc L mc m mc c = [] := by unfold wayC wayB; rw [if_pos rfl]
theorem wayC_step (h : Up fc tc L m) {a c k : Nat} (hs : OkS fc tc L mc m a c) (hne : a ≠ mc) (hk : lastI fc tc (cntF fc tc L mc m) (addF fc tc L mc m) a c L = (k : Int)) : wayC fc tc L mc m a c = k :: wayC fc tc L mc m (fc k) (c - addF fc tc L mc m k) := by
  obtain ⟨k2, hl, _, _, h5, _, h7⟩ := last_ok h hs hne
  have e : k2 = k := by omega
  subst e
  show wayB _ _ _ _ _ _ (a + 1) a c = _
  unfold wayB
  rw [if_neg hne]
  simp only [hl, Int.toNat_natCast]
  unfold wayC
  rw [wayB_fuel h a (fc k2 + 1) _ _ h7 h5 (by omega)]
theorem wayC_len (h : Up fc tc L m) : ∀ (a c : Nat), OkS fc tc L mc m a c → (wayC fc tc L mc m a c).length ≤ a := by
  intro a
  induction a using Nat.strongRecOn with
  | ind a ih =>
    intro c hs
    by_cases e : a = mc
    · rw [e, wayC_main]; exact Nat.zero_le _
    · obtain ⟨k, hl, _, _, h5, _, h7⟩ := last_ok h hs e
      rw [wayC_step h hs e hl, List.length_cons]
      have := ih _ h5 _ h7
      omega
theorem wayC_back (h : Up fc tc L m) (hmc : mc < m) {a c : Nat} (hs : OkS fc tc L mc m a c) : ctxF fc tc (addF fc tc L mc m) L ((wayC fc tc L mc m a c).reverse.map fun k : Nat => (k : Int)) mc 0 = some (a, c) := ctx_way h hmc _ a c hs (by omega)
end
/-- contexts that are numbered as they must -/
structure Right (c : Cl) (main : Int) (k mn : Nat) : Prop where
  main : main = (mn : Int)
  len : c.comp.length = k
  may : MayN k mn c.edges 62
  fit : fitC k mn c.edges 62 = true
  comp : c.comp = cmpZ k (edE c.edges)
  count : c.count = (List.range k).map fun v => (cnE k mn c.edges (cmp k (edE c.edges) v) : Int)
  add : c.add = (List.range c.edges.length).map fun i => (adE k mn c.edges i : Int)
theorem right_of {c : Cl} {main : Int} (h : rightB c main = true) : Right c main c.comp.length main.toNat := by
  unfold rightB at h
  simp only [Bool.and_eq_true] at h
  obtain ⟨⟨⟨⟨h1, h2⟩, h3⟩, h4⟩, h5⟩ := h
  obtain ⟨k, mn, w, e1, e2, e3, hm⟩ := mayN_of h1
  have hk : k = c.comp.length := by omega
  have hmn : mn = main.toNat := by omega
  have hw : w = 62 := by omega
  subst hk hmn hw
  exact ⟨e2, rfl, hm, h2, eq_of_beq h3, eq_of_beq h4, eq_of_beq h5⟩
theorem right_to {k mn : Nat} {es : List (Int × Int × Int)} (h : MayN k mn es 62) (hf : fitC k mn es 62 = true) : rightB (numC k mn es) (mn : Int) = true := by
  have hl : (numC k mn es).comp.length = k := cmpZ_len _ _
  unfold rightB
  rw [hl, Int.toNat_natCast]
  show (mayC (k : Int) (mn : Int) es 62 && fitC k mn es 62 && _ && _ && _) = true
  have hm := mayN_to h
  rw [show ((62 : Nat) : Int) = 62 from rfl] at hm
  rw [hm, hf]
  show (true && true && ((numC k mn es).comp == (numC k mn es).comp) && ((numC k mn es).count == (numC k mn es).count) && ((numC k mn es).add == (numC k mn es).add)) = true
  simp
section
variable {c : Cl} {main : Int} {k mn : Nat} (h : Right c main k mn)
include h
theorem Right.comp_at {v : Nat} (hv : v < k) : c.comp[v]? = some (cmp k (edE c.edges) v : Int) := by
  rw [h.comp]; unfold cmpZ; rw [List.getElem?_map, List.getElem?_range hv]; rfl
theorem Right.count_at {v : Nat} (hv : v < k) : c.count[v]? = some (cnE k mn c.edges (cmp k (edE c.edges) v) : Int) := by
  rw [h.count, List.getElem?_map, List.getElem?_range hv]; rfl
theorem Right.add_at {i : Nat} (hi : i < c.edges.length) : c.add[i]? = some (adE k mn c.edges i : Int) := by
  rw [h.add, List.getElem?_map, List.getElem?_range hi]; rfl
theorem Right.lenC : c.count.length = k := by rw [h.count, List.length_map, List.length_range]
theorem Right.lenA : c.add.length = c.edges.length := by rw [h.add, List.length_map, List.length_range]
theorem Right.bound {v : Nat} (hv : v < edM k c.edges) : cnE k mn c.edges v ≤ 4611686018427387903 := by
  have := fits_of h.fit hv
  exact this
end
/-- a context's way, or why there is none -/
noncomputable def wayR (c : Cl) (main me cx : Int) : List Nat × Int :=
  if rightB c main = false ∨ me < 0 ∨ (c.comp.length : Int) ≤ me then ([], 1)
  else if cx < 0 ∨ c.count.getD me.toNat 0 ≤ cx then ([], 3)
  else ((wayC (edF c.comp.length c.edges) (edT c.comp.length c.edges) c.edges.length (cmp c.comp.length (edE c.edges) main.toNat) (edM c.comp.length c.edges) (cmp c.comp.length (edE c.edges) me.toNat) cx.toNat).reverse, 0)
/-- where a way leads, as it is answered -/
def ctxO : Option (Nat × Nat) → Int × Int × Int
  | none => (0, 0, 3)
  | some (a, n) => ((a : Int), (n : Int), 0)
noncomputable def ctxR (c : Cl) (main : Int) (way : List Int) : Int × Int × Int :=
  if rightB c main = false then ((0, 0, 1) : Int × Int × Int)
  else ctxO (ctxF (edF c.comp.length c.edges) (edT c.comp.length c.edges) (adE c.comp.length main.toNat c.edges) c.edges.length way (cmp c.comp.length (edE c.edges) main.toNat) 0)
end Go.Proofs.Ytbancojknahdgaa

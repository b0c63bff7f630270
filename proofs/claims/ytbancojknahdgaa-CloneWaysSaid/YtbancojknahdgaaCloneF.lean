/- The contract of clone.Way. -/
import Derived.Test.YtbancojknahdgaaCloneD
namespace Go.Proofs.Ytbancojknahdgaa
open Go.RowKit CP
def WayPost (w : World) (r : List Nat × Int) (e : Ending) (w' : World) : Prop :=
  Below w.heap.size w w' ∧ ∃ y, e = .returned (.tuple #[y, .int .i64 r.2]) ∧ w'.ownsRow w.heap.size 3 1 y r.1.length (iV r.1) ∧ r.1.length ≤ 1024
theorem WayPost.no {w w' : World} {r : List Nat × Int} {n : Int} (hb : Below w.heap.size w w') (h : r = ([], n)) : WayPost w r (.returned (.tuple #[.slice none 0 0, .int .i64 n])) w' := by
  subst h
  exact ⟨hb, _, rfl, World.ownsRow_nil _ _ _ _, Nat.zero_le _⟩
set_option maxRecDepth 100000 in
set_option maxHeartbeats 12800000 in
theorem way_ok (w : World) (v : Value) (c : Cl) (main me cx : Int) (h : ClAt w v c) (hl : ClLen c) :
    Calls Try.prog 21 #[v, .int .i64 main, .int .i64 me, .int .i64 cx] w (WayPost w (wayR c main me cx)) := by
  have HRT0 : Hid (∀ W, Below w.heap.size w W → Calls Try.prog 44 #[v, .int .i64 main] W fun e w' => e = .returned (.bool (rightB c main)) ∧ Below W.heap.size W w') := Lib.hid (fun W hW => right_ok W v c main (h.below hW) hl)
  obtain ⟨a1, c1, a2, c2, a3, c3, a4, c4, rfl, h1, h2, h3, h4⟩ := h
  obtain ⟨c4, hc4⟩ : ∃ k, c.add.length + c4 = k := ⟨_, rfl⟩
  rw [hc4] at HRT0 ⊢
  clear hc4
  have HWR : Hid (wayR c main me cx = if rightB c main = false ∨ me < 0 ∨ (c.comp.length : Int) ≤ me then ([], 1)
    else if cx < 0 ∨ c.count.getD me.toNat 0 ≤ cx then ([], 3)
    else ((wayC (edF c.comp.length c.edges) (edT c.comp.length c.edges) c.edges.length (cmp c.comp.length (edE c.edges) main.toNat) (edM c.comp.length c.edges) (cmp c.comp.length (edE c.edges) me.toNat) cx.toNat).reverse, 0)) := Lib.hid rfl
  obtain ⟨R, hR⟩ : ∃ R, wayR c main me cx = R := ⟨_, rfl⟩
  rw [hR] at HWR ⊢
  clear hR
  have HRO : Hid (rightB c main = true → Right c main c.comp.length main.toNat) := Lib.hid right_of
  obtain ⟨n1, hn1⟩ : ∃ n1, c.comp.length = n1 := ⟨_, rfl⟩
  obtain ⟨n2, hn2⟩ : ∃ n2, c.count.length = n2 := ⟨_, rfl⟩
  obtain ⟨n3, hn3⟩ : ∃ n3, c.edges.length = n3 := ⟨_, rfl⟩
  obtain ⟨n4, hn4⟩ : ∃ n4, c.add.length = n4 := ⟨_, rfl⟩
  rw [hn1, hn2, hn3, hn4] at HRT0
  rw [hn1, hn2, hn3, hn4]
  rw [hn1, hn3] at HWR
  rw [hn1] at HRO
  obtain ⟨w1, hw1⟩ : ∃ w1, w1 = w.alloc (.cells #[.slice a1 n1 c1, .slice a2 n2 c2, .slice a3 n3 c3, .slice a4 n4 c4] 27) := ⟨_, rfl⟩
  have hb1 : Below w.heap.size w w1 := by rw [hw1]; exact (Below.refl _ _).alloc (Nat.le_refl _) _
  obtain ⟨g, hg⟩ : ∃ g, g = w.heap.size := ⟨_, rfl⟩
  have k1 : Blk w1 g 27 #[.slice a1 n1 c1, .slice a2 n2 c2, .slice a3 n3 c3, .slice a4 n4 c4] := by rw [hw1, hg]; exact Blk.new_ _ _ _
  have HRT := Lib.hid (HRT0.out w1 hb1)
  have q0 : w1.cell? ⟨g, 0, none⟩ = some (.slice a1 n1 c1) := k1.cell 0
  have q1 : w1.cell? ⟨g, 1, none⟩ = some (.slice a2 n2 c2) := k1.cell 1
  have q2 : w1.cell? ⟨g, 2, none⟩ = some (.slice a3 n3 c3) := k1.cell 2
  have q3 : w1.cell? ⟨g, 3, none⟩ = some (.slice a4 n4 c4) := k1.cell 3
  have ql := k1.lt
  have H1 := Lib.hid (h1.below hb1); have H2 := Lib.hid (h2.below hb1); have H3 := Lib.hid (h3.below hb1); have H4 := Lib.hid (h4.below hb1)
  have hl1 : n1 ≤ 16384 := by rw [← hn1]; exact hl.comp
  have hl2 : n2 ≤ 16384 := by rw [← hn2]; exact hl.count
  have hl3 : n3 ≤ 16384 := by rw [← hn3]; exact hl.edges
  have hl4 : n4 ≤ 16384 := by rw [← hn4]; exact hl.add
  have HW1 := Lib.hid hw1; have HG := Lib.hid hg; have HB1 := Lib.hid hb1; have HK1 := Lib.hid k1
  have HN1 := Lib.hid hn1; have HN2 := Lib.hid hn2; have HN3 := Lib.hid hn3; have HN4 := Lib.hid hn4
  clear hw1 hg hb1 k1 h1 h2 h3 h4 hl hn1 hn2 hn3 hn4 HRT0
  obtain ⟨j0, hj0, yz0, yz1, yz2⟩ := info_parts int_infoC
  go_enter Try.func21, Try.ntmps21
  go_upto_region 1 with (fail)
  rw [← HW1.out]
  try rw [← HG.out]
  cases hr : rightB c main with
  | false =>
    have HNO : Hid (R = ([], 1)) := Lib.hid (by rw [HWR.out, if_pos (.inl hr)])
    rw [hr] at HRT
    clear hr
    go_wp2_with fail
    refine HRT.out.mono ?_
    rintro e w2 ⟨rfl, hb2⟩
    have HB2 := Lib.hid (HB1.out.trans (hb2.mono HB1.out.size))
    clear hb2 q0 q1 q2 q3 ql
    go_wp2_with fail
    go_ret2
    exact WayPost.no HB2.out HNO.out
  | true =>
    have HRI := Lib.hid (HRO.out hr)
    rw [hr] at HRT HWR
    have HWR2 : Hid (R = if me < 0 ∨ (n1 : Int) ≤ me then ([], 1)
      else if cx < 0 ∨ c.count.getD me.toNat 0 ≤ cx then ([], 3)
      else ((wayC (edF n1 c.edges) (edT n1 c.edges) n3 (cmp n1 (edE c.edges) main.toNat) (edM n1 c.edges) (cmp n1 (edE c.edges) me.toNat) cx.toNat).reverse, 0)) := Lib.hid (by
      rw [HWR.out]
      by_cases h : me < 0 ∨ (n1 : Int) ≤ me
      · rw [if_pos h, if_pos (.inr h)]
      · rw [if_neg h, if_neg (by simp; omega)])
    clear hr HWR HRO
    by_cases hme0 : me < 0
    · have HNO : Hid (R = ([], 1)) := Lib.hid (by rw [HWR2.out, if_pos (.inl hme0)])
      have d1 : decide (me < 0) = true := decide_eq_true hme0
      go_wp2_with fail
      refine HRT.out.mono ?_
      rintro e w2 ⟨rfl, hb2⟩
      have HB2 := Lib.hid (HB1.out.trans (hb2.mono HB1.out.size))
      clear hb2 q0 q1 q2 q3 ql
      go_wp2_with fail
      go_ret2
      exact WayPost.no HB2.out HNO.out
    obtain ⟨m0, rfl⟩ : ∃ m0 : Nat, me = (m0 : Int) := ⟨me.toNat, by omega⟩
    by_cases hme1 : n1 ≤ m0
    · have HNO : Hid (R = ([], 1)) := Lib.hid (by rw [HWR2.out, if_pos (.inr (by omega))])
      have d2 : decide (n1 ≤ m0) = true := decide_eq_true hme1
      clear hme0
      go_wp2_with fail
      refine HRT.out.mono ?_
      rintro e w2 ⟨rfl, hb2⟩
      have HB2 := Lib.hid (HB1.out.trans (hb2.mono HB1.out.size))
      have kc := HK1.out.below hb2 HK1.out.lt
      have u0 : w2.cell? ⟨g, 0, none⟩ = some (.slice a1 n1 c1) := kc.cell 0
      have ul := kc.lt
      clear hb2 q0 q1 q2 q3 ql kc
      go_wp2_with fail
      go_ret2
      exact WayPost.no HB2.out HNO.out
    have hm0 : m0 < n1 := by omega
    have d2 : decide (n1 ≤ m0) = false := decide_eq_false hme1
    have hn2 : n2 = n1 := by rw [← HN2.out]; exact HRI.out.lenC
    subst hn2
    have hcz := HRI.out.count_at hm0
    obtain ⟨CM, hCM⟩ : ∃ CM, cmp n2 (edE c.edges) m0 = CM := ⟨_, rfl⟩
    rw [hCM] at hcz
    obtain ⟨CN, hCN⟩ : ∃ CN, cnE n2 main.toNat c.edges CM = CN := ⟨_, rfl⟩
    rw [hCN] at hcz
    have hcmM : CM < edM n2 c.edges := by rw [← hCM]; exact HRI.out.may.top hm0
    have hCNb := HRI.out.bound hcmM
    rw [hCN] at hCNb
    have HWR3 : Hid (R = if cx < 0 ∨ (CN : Int) ≤ cx then ([], 3)
      else ((wayC (edF n2 c.edges) (edT n2 c.edges) n3 (cmp n2 (edE c.edges) main.toNat) (edM n2 c.edges) CM cx.toNat).reverse, 0)) := Lib.hid (by
      rw [HWR2.out, if_neg (by omega), Int.toNat_natCast, hCM, List.getD_eq_getElem?_getD, hcz]; rfl)
    have HCMEQ := Lib.hid hCM
    have HCZ := Lib.hid hcz; have HCN := Lib.hid hCN; have HCMM := Lib.hid hcmM
    clear HWR2 hme0 hme1 hCM hcz hCN hcmM
    by_cases hx0 : cx < 0
    · have HNO : Hid (R = ([], 3)) := Lib.hid (by rw [HWR3.out, if_pos (.inl hx0)])
      have d3 : decide (cx < 0) = true := decide_eq_true hx0
      go_wp2_with fail
      refine HRT.out.mono ?_
      rintro e w2 ⟨rfl, hb2⟩
      have HB2 := Lib.hid (HB1.out.trans (hb2.mono HB1.out.size))
      have kc := HK1.out.below hb2 HK1.out.lt
      have u0 : w2.cell? ⟨g, 0, none⟩ = some (.slice a1 n2 c1) := kc.cell 0
      have ul := kc.lt
      clear hb2 q0 q1 q2 q3 ql kc
      go_wp2_with fail
      go_ret2
      exact WayPost.no HB2.out HNO.out
    obtain ⟨cx0, rfl⟩ : ∃ cx0 : Nat, cx = (cx0 : Int) := ⟨cx.toNat, by omega⟩
    by_cases hx1 : CN ≤ cx0
    · have HNO : Hid (R = ([], 3)) := Lib.hid (by rw [HWR3.out, if_pos (.inr (by omega))])
      have d4 : decide (CN ≤ cx0) = true := decide_eq_true hx1
      clear hx0
      go_wp2_with fail
      refine HRT.out.mono ?_
      rintro e w2 ⟨rfl, hb2⟩
      have HB2 := Lib.hid (HB1.out.trans (hb2.mono HB1.out.size))
      have kc := HK1.out.below hb2 HK1.out.lt
      have u0 : w2.cell? ⟨g, 0, none⟩ = some (.slice a1 n2 c1) := kc.cell 0
      have u1 : w2.cell? ⟨g, 1, none⟩ = some (.slice a2 n2 c2) := kc.cell 1
      have ul := kc.lt
      obtain ⟨b2, o2, hca, hbl, hcc⟩ := (H2.out.below hb2).at_ (zV_at HCZ.out)
      subst hca
      clear hb2 q0 q1 q2 q3 ql kc
      go_wp2_with fail
      go_ret2
      exact WayPost.no HB2.out HNO.out
    have d4 : decide (CN ≤ cx0) = false := decide_eq_false hx1
    have hmain := HRI.out.main
    obtain ⟨mn, hmn⟩ : ∃ mn : Nat, main.toNat = mn := ⟨_, rfl⟩
    rw [hmn] at hmain HRI HWR3 HCN
    subst hmain
    have hmnk := HRI.out.may.mn1
    have hmcM := HRI.out.may.top hmnk
    have HUP : Hid (Up (edF n2 c.edges) (edT n2 c.edges) n3 (edM n2 c.edges)) := Lib.hid (by have h := HRI.out.may.up; rw [HN3.out] at h; exact h)
    have HMCZ := Lib.hid (HRI.out.comp_at hmnk)
    have HM0Z : Hid (c.comp[m0]? = some (cmp n2 (edE c.edges) m0 : Int)) := Lib.hid (HRI.out.comp_at hm0)
    obtain ⟨mc, hmc⟩ : ∃ mc, cmp n2 (edE c.edges) mn = mc := ⟨_, rfl⟩
    have hcn : cnE n2 mn c.edges = cntF (edF n2 c.edges) (edT n2 c.edges) n3 mc (edM n2 c.edges) := by unfold cnE; rw [HN3.out, hmc]
    have had : adE n2 mn c.edges = addF (edF n2 c.edges) (edT n2 c.edges) n3 mc (edM n2 c.edges) := by unfold adE; rw [HN3.out, hmc]
    have HED0 : Hid (∀ i, i < n3 → ∃ a e d : Nat, c.edges[i]? = some ((a : Int), (e : Int), (d : Int)) ∧ a < n2 ∧ d < n2 ∧ c.comp[a]? = some (edF n2 c.edges i : Int) ∧ c.comp[d]? = some (edT n2 c.edges i : Int) ∧ c.count[a]? = some (cnE n2 mn c.edges (edF n2 c.edges i) : Int) ∧ c.add[i]? = some (adE n2 mn c.edges i : Int)) := Lib.hid (fun i hi => by
      have hx : c.edges[i]? = some (c.edges[i]'(by rw [HN3.out]; exact hi)) := List.getElem?_eq_getElem _
      obtain ⟨a, e, d, he, ha, hd, _⟩ := HRI.out.may.at_ hx
      rw [he] at hx
      have h1 := edF_at n2 hx; have h2 := edT_at n2 hx
      simp only [Int.toNat_natCast] at h1 h2
      exact ⟨a, e, d, hx, ha, hd, by rw [h1]; exact HRI.out.comp_at ha, by rw [h2]; exact HRI.out.comp_at hd, by rw [h1]; exact HRI.out.count_at ha, HRI.out.add_at (by rw [HN3.out]; exact hi)⟩)
    have hcnB := Lib.hid hcn
    rw [hcn, had] at HED0
    rw [hmc] at HWR3 HMCZ hmcM
    rw [hcn] at HCN
    rw [HCMEQ.out] at HM0Z
    have HOK0 : Hid (OkS (edF n2 c.edges) (edT n2 c.edges) n3 mc (edM n2 c.edges) CM cx0) := Lib.hid ⟨HCMM.out, by rw [HCN.out]; omega⟩
    have HWR4 : Hid (R = ((wayC (edF n2 c.edges) (edT n2 c.edges) n3 mc (edM n2 c.edges) CM cx0).reverse, 0)) := Lib.hid (by
      rw [HWR3.out, if_neg (by omega), Int.toNat_natCast])
    have hMk := HRI.out.may.topk
    have hk2 := HRI.out.may.k2
    obtain ⟨F, hF⟩ : ∃ F, edF n2 c.edges = F := ⟨_, rfl⟩
    obtain ⟨T, hT⟩ : ∃ T, edT n2 c.edges = T := ⟨_, rfl⟩
    obtain ⟨MM, hM⟩ : ∃ MM, edM n2 c.edges = MM := ⟨_, rfl⟩
    rw [hF, hT, hM] at hcnB
    rw [hF, hT, hM] at HUP HED0 HOK0 HWR4
    rw [hM] at hmcM hMk
    have HED := HED0
    have hCMl : CM ≤ 1024 := by have := HOK0.out.1; omega
    have HN44 : Hid (n4 = n3) := Lib.hid (by have h := HRI.out.lenA; rw [HN3.out, HN4.out] at h; exact h)
    have HBND0 : Hid (∀ v, v < edM n2 c.edges → cnE n2 mn c.edges v ≤ 4611686018427387903) := Lib.hid (fun v hv => HRI.out.bound hv)
    rw [hcnB.out, hM] at HBND0
    have HBND := HBND0
    clear HBND0
    have HLEN := Lib.hid (wayC_len HUP.out CM cx0 HOK0.out)
    clear HED0 HWR3 hmn hmc hcn had hF hT hM HRI HCN HCMM HCMEQ hx0 hx1 hmcM
    obtain ⟨b5, o5, hca5, hbl5, hcc5⟩ := H2.out.at_ (zV_at HCZ.out)
    subst hca5
    go_wp2_with fail
    refine HRT.out.mono ?_
    rintro e w2 ⟨rfl, hb2⟩
    have HB2 := Lib.hid (HB1.out.trans (hb2.mono HB1.out.size))
    have kc := HK1.out.below hb2 HK1.out.lt
    have C1 := Lib.hid (H1.out.below hb2); have C2 := Lib.hid (H2.out.below hb2); have C3 := Lib.hid (H3.out.below hb2); have C4 := Lib.hid (H4.out.below hb2)
    have HK2 := Lib.hid kc
    have u0 : w2.cell? ⟨g, 0, none⟩ = some (.slice a1 n2 c1) := kc.cell 0
    have u1 : w2.cell? ⟨g, 1, none⟩ = some (.slice (some ⟨b5, o5, none⟩) n2 c2) := kc.cell 1
    have ul := kc.lt
    have x5 : w2.cell? ⟨b5, o5 + m0, none⟩ = some (.int .i64 (CN : Int)) := (hb2.cell (p := ⟨b5, o5 + m0, none⟩) hbl5).trans hcc5
    obtain ⟨b6, o6, hca6, hbl6, x6⟩ := C1.out.at_ (zV_at HM0Z.out)
    subst hca6
    clear hb2 kc q0 q1 q2 q3 ql H1 H2 H3 H4 HK1 HB1 HRT hcc5 hbl5
    have z1 : decide ((m0 : Int) < 0) = false := decide_eq_false (by omega)
    have z2 : decide ((cx0 : Int) < 0) = false := decide_eq_false (by omega)
    go_wp2_with fail
    clear x5 x6 hbl6
    go_loopg [3, 10, 11] CM (fun mm x3 x10 x11 wr => ∃ (av cx : Nat) (done : List Nat), mm = av ∧ x3 = .int .i64 (cx : Int) ∧ x11 = .int .i64 (av : Int) ∧ OkS F T n3 mc MM av cx ∧ Below w2.heap.size w2 wr ∧ wr.ownsRow w2.heap.size 3 1 x10 done.length (iV done) ∧ done ++ wayC F T n3 mc MM av cx = wayC F T n3 mc MM CM cx0)
    case atStart => exact ⟨CM, cx0, [], rfl, rfl, rfl, HOK0.out, Below.refl _ _, World.ownsRow_nil _ _ _ _, rfl⟩
    case round =>
      obtain ⟨av, cx, done, hmm, rfl, rfl, hok, hb, hrow, hway⟩ := hrel
      have HMMV := Lib.hid hmm
      clear hmm
      have HOK := Lib.hid hok; have HB := Lib.hid hb; have HROW := Lib.hid hrow; have HWAY := Lib.hid hway
      have hdl : done.length ≤ 1024 := by
        have h := congrArg List.length hway
        rw [List.length_append] at h
        have h2 := HLEN.out
        omega
      have hwr := hb.size
      clear hok hb hrow hway
      have kc := HK2.out.below HB.out HK2.out.lt
      have v0 : wr.cell? ⟨g, 0, none⟩ = some (.slice (some ⟨b6, o6, none⟩) n2 c1) := kc.cell 0
      have v2 : wr.cell? ⟨g, 2, none⟩ = some (.slice a3 n3 c3) := kc.cell 2
      have vl := kc.lt
      obtain ⟨b7, o7, e7, hbl7, x7⟩ := (C1.out.below HB.out).at_ (zV_at HMCZ.out)
      injection e7 with e7
      injection e7 with e7 e8 _
      subst e7 e8
      clear kc
      by_cases hav : av = mc
      · subst hav
        have HD : Hid (R = (done.reverse, 0)) := Lib.hid (by
          have h := HWAY.out
          rw [wayC_main, List.append_nil] at h
          rw [HWR4.out, ← h])
        have d1 : ((av : Int) != (av : Int)) = false := by simp
        have HREV := Lib.hid (reverse_own wr w2.heap.size u10 done hdl HROW.out)
        obtain ⟨D, hD⟩ : ∃ D, done.length = D := ⟨_, rfl⟩
        have HDL := Lib.hid hD
        rw [hD] at hdl
        clear hD
        go_wp2_with fail
        refine HREV.out.mono ?_
        rintro e w9 ⟨rfl, hr9, hb9⟩
        have HB9 := Lib.hid (hb9 w2.heap.size w2 HB.out (Nat.le_refl _))
        have HR9 := Lib.hid hr9
        clear hr9 hb9
        go_wp2_with fail
        go_ret2
        refine ⟨HB2.out.trans (HB9.out.mono HB2.out.size), u10, by rw [HD.out]; rfl, ?_, ?_⟩
        · rw [HD.out, List.length_reverse]; exact own_base HR9.out HB2.out.size
        · rw [HD.out, List.length_reverse, HDL.out]; exact hdl
      · have d1 : ((av : Int) != (mc : Int)) = true := by rw [bne_iff_ne]; omega
        have d2 : (av != mc) = true := by rw [bne_iff_ne]; exact hav
        obtain ⟨kk, hlast, hkL, hkt, hkf, hka, hkok⟩ := last_ok HUP.out HOK.out hav
        have HLAST := Lib.hid hlast; have HKOK := Lib.hid hkok; have HKT := Lib.hid hkt
        have HSTEP := Lib.hid (wayC_step HUP.out HOK.out hav hlast)
        obtain ⟨wo, hwo⟩ : ∃ wo, wo = wr := ⟨_, rfl⟩
        rw [← hwo] at HB HROW v0 v2 vl x7 hbl7 hwr ⊢
        clear hwo hlast hkok hkt
        go_wp2_with fail
        go_loopg [12, 58] n3 (fun mm x12 x58 wr => ∃ i : Nat, mm + i = n3 ∧ x58 = .int .i64 (i : Int) ∧ x12 = .int .i64 (lastI F T (cntF F T n3 mc MM) (addF F T n3 mc MM) av cx i) ∧ Below wo.heap.size wo wr)
        case atStart => exact ⟨0, rfl, rfl, rfl, Below.refl _ _⟩
        case round =>
          obtain ⟨i, hm2, rfl, rfl, hb⟩ := hrel
          have HM2 := Lib.hid hm2; have HB3 := Lib.hid hb
          clear hm2 hb
          by_cases hi : i < n3
          · obtain ⟨a, e, d, hx, ha, hd, hza, hzd, hna, hai⟩ := HED.out i hi
            have HB23 := Lib.hid (HB.out.trans (HB3.out.mono hwr))
            obtain ⟨b8, o8, rfl, hl8, t0, t1, t2⟩ := (C3.out.below HB23.out).key hx
            simp only at t0 t1 t2
            obtain ⟨w4, hw4⟩ : ∃ w4, w4 = wr.alloc (.cells #[.int .i64 (a : Int), .int .i64 (e : Int), .int .i64 (d : Int)] 50) := ⟨_, rfl⟩
            obtain ⟨gx, hgx⟩ : ∃ gx, gx = wr.heap.size := ⟨_, rfl⟩
            have hb4 : Below wr.heap.size wr w4 := by rw [hw4]; exact (Below.refl _ _).alloc (Nat.le_refl _) _
            have kx : Blk w4 gx 50 #[.int .i64 (a : Int), .int .i64 (e : Int), .int .i64 (d : Int)] := by rw [hw4, hgx]; exact Blk.new_ _ _ _
            have HB4 := Lib.hid (HB3.out.trans (hb4.mono HB3.out.size))
            have hb24 : Below w2.heap.size w2 w4 := HB23.out.trans (hb4.mono HB23.out.size)
            obtain ⟨b9, o9, e9, hl9, ya⟩ := (C1.out.below hb24).at_ (zV_at hza)
            injection e9 with e9
            injection e9 with e9 e10 _
            subst e9 e10
            obtain ⟨b9, o9, e9, _, yd⟩ := (C1.out.below hb24).at_ (zV_at hzd)
            injection e9 with e9
            injection e9 with e9 e10 _
            subst e9 e10
            obtain ⟨b9, o9, e9, hl10, yn⟩ := (C2.out.below hb24).at_ (zV_at hna)
            injection e9 with e9
            injection e9 with e9 e10 _
            subst e9 e10
            obtain ⟨b11, o11, e11, hl11, yi⟩ := (C4.out.below hb24).at_ (zV_at hai)
            subst e11
            have kc := HK2.out.below hb24 HK2.out.lt
            have p0 : w4.cell? ⟨gx, 0, none⟩ = some (.int .i64 (a : Int)) := kx.cell 0
            have p2 : w4.cell? ⟨gx, 2, none⟩ = some (.int .i64 (d : Int)) := kx.cell 2
            have pl := kx.lt
            have r0 : w4.cell? ⟨g, 0, none⟩ = some (.slice (some ⟨b6, o6, none⟩) n2 c1) := kc.cell 0
            have r1 : w4.cell? ⟨g, 1, none⟩ = some (.slice (some ⟨b5, o5, none⟩) n2 c2) := kc.cell 1
            have r3 : w4.cell? ⟨g, 3, none⟩ = some (.slice (some ⟨b11, o11, none⟩) n4 c4) := kc.cell 3
            have rl := kc.lt
            have HNX : Hid (lastI F T (cntF F T n3 mc MM) (addF F T n3 mc MM) av cx (i + 1) = if wayP F T (cntF F T n3 mc MM) (addF F T n3 mc MM) av cx i then (i : Int) else lastI F T (cntF F T n3 mc MM) (addF F T n3 mc MM) av cx i) := Lib.hid rfl
            have HWP : Hid (wayP F T (cntF F T n3 mc MM) (addF F T n3 mc MM) av cx i = (T i == av && F i != av && decide (0 < cntF F T n3 mc MM (F i)) && decide (addF F T n3 mc MM i ≤ cx))) := Lib.hid rfl
            obtain ⟨ls, hls⟩ : ∃ ls, lastI F T (cntF F T n3 mc MM) (addF F T n3 mc MM) av cx i = ls := ⟨_, rfl⟩
            obtain ⟨nn, hnn⟩ : ∃ nn, cntF F T n3 mc MM (F i) = nn := ⟨_, rfl⟩
            obtain ⟨ai, hai2⟩ : ∃ ai, addF F T n3 mc MM i = ai := ⟨_, rfl⟩
            obtain ⟨fi, hfi⟩ : ∃ fi, F i = fi := ⟨_, rfl⟩
            obtain ⟨ti, hti⟩ : ∃ ti, T i = ti := ⟨_, rfl⟩
            rw [hls] at HNX ⊢
            rw [hnn, hai2, hfi, hti] at HWP
            rw [hfi] at ya
            rw [hti] at yd
            rw [hnn] at yn
            rw [hai2] at yi
            have hi4 : i < n4 := by rw [HN44.out]; exact hi
            have HW4 := Lib.hid hw4; have HGX := Lib.hid hgx
            clear hx hza hzd hna hai hw4 hgx hb4 kx hb24 kc hls hnn hai2 hfi hti HB23
            go_upto_region 12 with (fail)
            rw [← HW4.out]
            try rw [← HGX.out]
            by_cases g1 : ti = av
            · by_cases g2 : fi = av
              · have HF : Hid (lastI F T (cntF F T n3 mc MM) (addF F T n3 mc MM) av cx (i + 1) = ls) := Lib.hid (by rw [HNX.out, HWP.out, g1, g2]; simp)
                subst g1 g2
                have e1 : ((fi : Int) == (fi : Int)) = true := by simp
                have e2 : ((fi : Int) != (fi : Int)) = false := by simp
                go_wp2_with fail
                go_roundg (n3 - (i + 1))
                case measure => have := HM2.out; omega
                case rel => exact ⟨i + 1, by have := HM2.out; omega, by go_num, by rw [HF.out], HB4.out⟩
              · by_cases g3 : nn = 0
                · have HF : Hid (lastI F T (cntF F T n3 mc MM) (addF F T n3 mc MM) av cx (i + 1) = ls) := Lib.hid (by rw [HNX.out, HWP.out, g3]; simp)
                  have e1 : ((ti : Int) == (av : Int)) = true := by rw [beq_iff_eq]; omega
                  have e1' : (ti == av) = true := by rw [beq_iff_eq]; omega
                  have e2 : ((fi : Int) != (av : Int)) = true := by rw [bne_iff_ne]; omega
                  have e2' : (fi != av) = true := by rw [bne_iff_ne]; omega
                  have e3 : ¬ 0 < nn := by omega
                  have e3' : decide (0 < nn) = false := decide_eq_false e3
                  clear g1 g2 g3
                  go_wp2_with fail
                  go_roundg (n3 - (i + 1))
                  case measure => have := HM2.out; omega
                  case rel => exact ⟨i + 1, by have := HM2.out; omega, by go_num, by rw [HF.out], HB4.out⟩
                · have e1 : ((ti : Int) == (av : Int)) = true := by rw [beq_iff_eq]; omega
                  have e1' : (ti == av) = true := by rw [beq_iff_eq]; omega
                  have e2 : ((fi : Int) != (av : Int)) = true := by rw [bne_iff_ne]; omega
                  have e2' : (fi != av) = true := by rw [bne_iff_ne]; omega
                  have e3 : 0 < nn := by omega
                  have e3' : decide (0 < nn) = true := decide_eq_true e3
                  by_cases g4 : ai ≤ cx
                  · have HF : Hid (lastI F T (cntF F T n3 mc MM) (addF F T n3 mc MM) av cx (i + 1) = (i : Int)) := Lib.hid (by rw [HNX.out, HWP.out, e1', e2', e3', decide_eq_true g4]; rfl)
                    have e4 : decide (ai ≤ cx) = true := decide_eq_true g4
                    clear g1 g2 g3
                    go_wp2_with fail
                    go_roundg (n3 - (i + 1))
                    case measure => have := HM2.out; omega
                    case rel => exact ⟨i + 1, by have := HM2.out; omega, by go_num, by rw [HF.out], HB4.out⟩
                  · have HF : Hid (lastI F T (cntF F T n3 mc MM) (addF F T n3 mc MM) av cx (i + 1) = ls) := Lib.hid (by rw [HNX.out, HWP.out, decide_eq_false g4]; simp)
                    have e4 : decide (ai ≤ cx) = false := decide_eq_false g4
                    clear g1 g2 g3
                    go_wp2_with fail
                    go_roundg (n3 - (i + 1))
                    case measure => have := HM2.out; omega
                    case rel => exact ⟨i + 1, by have := HM2.out; omega, by go_num, by rw [HF.out], HB4.out⟩
            · have HF : Hid (lastI F T (cntF F T n3 mc MM) (addF F T n3 mc MM) av cx (i + 1) = ls) := Lib.hid (by rw [HNX.out, HWP.out, show (ti == av) = false from beq_eq_false_iff_ne.2 g1]; simp)
              have e1 : ((ti : Int) == (av : Int)) = false := by rw [beq_eq_false_iff_ne]; omega
              have e1' : (ti == av) = false := by rw [beq_eq_false_iff_ne]; omega
              clear g1
              go_wp2_with fail
              go_roundg (n3 - (i + 1))
              case measure => have := HM2.out; omega
              case rel => exact ⟨i + 1, by have := HM2.out; omega, by go_num, by rw [HF.out], HB4.out⟩
          · have hin : i = n3 := by have := HM2.out; omega
            rw [hin, HLAST.out]
            have hb2q : Below w2.heap.size w2 wr := HB.out.trans (HB3.out.mono hwr)
            have hrowq := own_below HROW.out HB3.out
            obtain ⟨D, hD⟩ : ∃ D, done.length = D := ⟨_, rfl⟩
            rw [hD] at hrowq hdl
            have HROWQ := Lib.hid hrowq; have HB2Q := Lib.hid hb2q; have HD := Lib.hid hD
            have hwq := hb2q.size
            clear hin hrowq hb2q hD v0 v2 vl x7 hbl7 HB3
            go_wp2_with (at_builtin; refine wpList_append_sep rfl (.tmp 101) (.tmp 103) 25 rfl w2.heap.size 3 j0 (.int .i64 0) 1 8 Try.underlying25 hj0 yz0 yz1 yz2 rfl (by decide) _ D _ rfl (HROWQ.out.alloc _) wr.heap.size 0 1 1 [.int .i64 (kk : Int)] rfl rfl (lit_one _ _ _) (ones_int _) (by unfold maxLen; omega) (by omega) (by simp; omega) ?_)
            intro y7 w7 hown hg7 hsep
            have hb7 : Below w2.heap.size w2 w7 := (HB2Q.out.alloc hwq (.cells #[.int .i64 (kk : Int)] 3)).grown hg7 (by simp; omega) (fun b hb => (HROWQ.out.lt b hb).1)
            have HR7 : Hid (w7.ownsRow w2.heap.size 3 1 y7 (done ++ [kk]).length (iV (done ++ [kk]))) := Lib.hid (by
              rw [iV_app, List.length_append, HD.out]; exact hown)
            have HB7 := Lib.hid hb7
            obtain ⟨a, e, d, hx, ha, hd, hza, _, _, hai⟩ := HED.out kk hkL
            obtain ⟨b8, o8, rfl, hl8, t0, _, _⟩ := (C3.out.below hb7).key hx
            simp only at t0
            obtain ⟨b9, o9, e9, hl9, ya⟩ := (C1.out.below hb7).at_ (zV_at hza)
            injection e9 with e9
            injection e9 with e9 e10 _
            subst e9 e10
            obtain ⟨b11, o11, e11, hl11, yi⟩ := (C4.out.below hb7).at_ (zV_at hai)
            subst e11
            have kc := HK2.out.below hb7 HK2.out.lt
            have r0 : w7.cell? ⟨g, 0, none⟩ = some (.slice (some ⟨b6, o6, none⟩) n2 c1) := kc.cell 0
            have r2 : w7.cell? ⟨g, 2, none⟩ = some (.slice (some ⟨b8, o8, none⟩) n3 c3) := kc.cell 2
            have r3 : w7.cell? ⟨g, 3, none⟩ = some (.slice (some ⟨b11, o11, none⟩) n4 c4) := kc.cell 3
            have rl := kc.lt
            have hk4 : kk < n4 := by rw [HN44.out]; exact hkL
            obtain ⟨ak, hak⟩ : ∃ ak, addF F T n3 mc MM kk = ak := ⟨_, rfl⟩
            obtain ⟨fk, hfk⟩ : ∃ fk, F kk = fk := ⟨_, rfl⟩
            have HKOK2 := HKOK
            have HSTEP2 := HSTEP
            rw [hak, hfk] at HKOK2 HSTEP2
            rw [hak] at yi hka
            rw [hfk] at ya hkf
            obtain ⟨cz, hcz⟩ : ∃ cz, cx - ak = cz := ⟨_, rfl⟩
            have hcz2 : (cx : Int) - (ak : Int) = (cz : Int) := by omega
            rw [hcz] at HKOK2 HSTEP2
            have hcxb : cx ≤ 4611686018427387903 := by
              have h1 := HOK.out.2
              have h2 := HBND.out av HOK.out.1
              omega
            have HWAY2 : Hid ((done ++ [kk]) ++ wayC F T n3 mc MM fk cz = wayC F T n3 mc MM CM cx0) := Lib.hid (by
              rw [← HWAY.out, HSTEP2.out, List.append_assoc]; rfl)
            have HKF := Lib.hid hkf
            have hczb : cz ≤ 4611686018427387903 := by omega
            clear hown hg7 hsep hb7 hx hza hai kc hak hfk hcz hkf HKOK HSTEP HROWQ HB2Q
            go_wp2_with fail
            go_quiet (fail)
            go_wp2_with fail
            go_roundg fk
            case measure => rw [HMMV.out]; exact HKF.out
            case rel => exact ⟨fk, cz, done ++ [kk], rfl, by go_num, rfl, HKOK2.out, HB7.out.trans ((drew_below _ _).mono HB7.out.size), own_below HR7.out (drew_below _ _), HWAY2.out⟩
end Go.Proofs.Ytbancojknahdgaa

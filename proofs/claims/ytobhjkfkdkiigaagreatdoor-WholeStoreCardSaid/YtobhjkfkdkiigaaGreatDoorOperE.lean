/- Layer 4: the contract of ite, by induction on the variables left. -/
import Derived.Test.YtobhjkfkdkiigaaGreatDoorOperAD
import Derived.Test.YtobhjkfkdkiigaaGreatDoorOperP
namespace Go.Proofs.YtobhjkfkdkiigaaGreatDoor
open Go.RowKit HP NP
theorem OpsF.lts {w : World} {B p q g : Nat} {S : NS} {C : Nat → Fnd} (h : OpsF w B p q g S C) : q < w.heap.size ∧ g < w.heap.size := ⟨h.tab.lt, h.cat.lt⟩
theorem isB_small {S : NS} (hW : Wf S) {k : Nat} (h : isB S.l k = true) : k < 1048576 := by have := isB_lt h; have := hW.lm; omega
theorem OpsF.m' {w : World} {B p q g : Nat} {S : NS} {C : Nat → Fnd} (h : OpsF w B p q g S C) (hs : S.sweeps < 4611686018427387904) : OpsM w B p q S := h.m hs
theorem storeFd_block (w : World) (g k : Nat) (x : Fnd) (i : Nat) (hi : i ≠ g) : (storeFd w g k x).heap[i]? = w.heap[i]? := by
  unfold storeFd
  rw [Below.heap_setCell _ _ _ _ hi, Below.heap_setCell _ _ _ _ hi, Below.heap_setCell _ _ _ _ hi, Below.heap_setCell _ _ _ _ hi, Below.heap_setCell _ _ _ _ hi]
theorem OpsF.store {w : World} {B p q g : Nat} {S : NS} {C : Nat → Fnd} (h : OpsF w B p q g S C) {k : Nat} (hk : k < 4096) {x : Fnd} (hx : FndOk S x) : OpsF (storeFd w g k x) B p q g S (updC C k x) := by
  obtain ⟨cs, hb, _⟩ := h.cat
  have hne : q ≠ g := h.tab.ne hb (by decide)
  exact ⟨h.hq, h.hg, (storeFd_block w g k x q hne).trans h.tab, h.cat.store hk x, h.ca.upd k hx⟩
/-- the world behind the key's box -/
abbrev keyW (w : World) (a b c : Nat) : World := w.alloc (.cells #[.int .i64 (a : Int), .int .i64 (b : Int), .int .i64 (c : Int)] 123)
set_option maxRecDepth 100000 in
set_option maxHeartbeats 4000000 in
theorem ite_ok (B p q g : Nat) (V : Nat → Bool) : ∀ (f : Nat) (w : World) (S : NS) (C : Nat → Fnd) (a b c u : Nat), Sto w B p S → OpsF w B p q g S C → S.sweeps < 4611686018427387904 → B ≤ w.heap.size → isB S.l a = true → isB S.l b = true → isB S.l c = true →
    u ≤ (nd S.l a).v → u ≤ (nd S.l b).v → u ≤ (nd S.l c).v → Dep V (fun ρ => den S.l ρ a) → Dep V (fun ρ => den S.l ρ b) → Dep V (fun ρ => den S.l ρ c) → rk V S.vars u ≤ f →
    Calls Tryz.prog 89 #[.pointer (some ⟨q, 0, none⟩), .int .i64 (a : Int), .int .i64 (b : Int), .int .i64 (c : Int)] w (ItePost B p q g S a b c f w) := by
  intro f
  induction f with
  | zero =>
    intro w S C a b c u h ho hsw hB ha hb hc hua hub huc da db dc hf
    have ha2 : a < 2 := by
      rcases Nat.lt_or_ge a 2 with h2 | h2
      · exact h2
      · have hv := (h.wf.kid a h2 ha).1
        have := rk_lt hua hv (da.top h.wf ha hv); omega
    exact ite_early w B p q g S C a b c 0 h ho ha hb hc (.inl ha2)
  | succ f ih =>
    intro w S C a b c u h ho hsw hB ha hb hc hua hub huc da db dc hf
    by_cases hx : a < 2 ∨ b = c ∨ (b = 1 ∧ c = 0)
    · exact ite_early w B p q g S C a b c (f + 1) h ho ha hb hc hx
    have IH := Lib.hid ih
    have HS := Lib.hid h; have HO := Lib.hid ho; have HA := Lib.hid ha; have HBB := Lib.hid hb; have HC := Lib.hid hc
    have hva := (h.wf.kid a (by omega) ha).1
    obtain ⟨v, hv⟩ : ∃ v, v = min (nd S.l a).v (min (nd S.l b).v (nd S.l c).v) := ⟨_, rfl⟩
    have hvs : v < S.vars := by omega
    have hVv : V v = true := by
      have h3 : v = (nd S.l a).v ∨ v = (nd S.l b).v ∨ v = (nd S.l c).v := by omega
      rcases h3 with h3 | h3 | h3
      · rw [h3]; exact da.top h.wf ha (by omega)
      · rw [h3]; exact db.top h.wf hb (by omega)
      · rw [h3]; exact dc.top h.wf hc (by omega)
    have HF : Hid (rk V S.vars (v + 1) ≤ f) := Lib.hid (by have := rk_lt (n := S.vars) (show u ≤ v by omega) hvs hVv; omega)
    have SA := Lib.hid (split_ok h.wf ha hvs (by omega)); have SB := Lib.hid (split_ok h.wf hb hvs (by omega)); have SC := Lib.hid (split_ok h.wf hc hvs (by omega))
    have DA := Lib.hid (SA.out.dep h.wf da); have DB := Lib.hid (SB.out.dep h.wf db); have DC := Lib.hid (SC.out.dep h.wf dc)
    have hma := isB_small h.wf ha; have hmb := isB_small h.wf hb; have hmc := isB_small h.wf hc
    have HV := Lib.hid hv
    obtain ⟨ix, hix⟩ : ∃ ix, ix = (a * 7 + b * 31 + c * 127) % 4096 := ⟨_, rfl⟩
    have hil : ix < 4096 := by omega
    have hand : bits .and .i64 ((a : Int) * 7 + (b : Int) * 31 + (c : Int) * 127) 4095 = (ix : Int) := by
      rw [hix, ← and_4095]; rfl
    have e1 : ((a : Int) == 1) = false := beq_eq_false_iff_ne.2 (by omega)
    have e2 : ((b : Int) == (c : Int)) = false := beq_eq_false_iff_ne.2 (by omega)
    have e3 : ((a : Int) == 0) = false := beq_eq_false_iff_ne.2 (by omega)
    have e45 : (((b : Int) == 1) = true ∧ ((c : Int) == 0) = false) ∨ ((b : Int) == 1) = false := by
      by_cases hb1 : b = 1
      · exact .inl ⟨by rw [beq_iff_eq]; omega, beq_eq_false_iff_ne.2 (by omega)⟩
      · exact .inr (beq_eq_false_iff_ne.2 (by omega))
    have c4 : w.cell? ⟨q, 4, none⟩ = some (.slice (some ⟨g, 0, none⟩) 4096 4096) := ho.tab.cell 4
    obtain ⟨hql, hgl⟩ := ho.lts
    obtain ⟨q0, q1, q2, q3, q4⟩ := ho.cat.at_ hil
    have HIX := Lib.hid hix
    obtain ⟨x, hxe⟩ : ∃ x, C ix = x := ⟨_, rfl⟩
    rw [hxe] at q0 q1 q2 q3 q4
    have HX := Lib.hid hxe
    have hkey := eq_arr3 x.a x.b x.c a b c
    have hgd : ∀ (x y : Operand) (a b d a' b' d' : Value) (w : World), (eqGuard .eql 123 x y (.agg #[a, b, d]) (.agg #[a', b', d'])).run Tryz.prog w = .ok () w := fun x y a b d a' b' d' w => guard_arr3 x y _ _ w
    clear ih h ho ha hb hc hx hv hix hxe hva hua hub huc hf hvs da db dc hVv
    have HK0 := Lib.hid (Blk.new_ w 123 #[.int .i64 (a : Int), .int .i64 (b : Int), .int .i64 (c : Int)])
    obtain ⟨hit, hhit⟩ : ∃ hit, hit = (x.is && (x.a == (a : Int) && (x.b == (b : Int) && x.c == (c : Int)))) := ⟨_, rfl⟩
    have HH := Lib.hid hhit
    obtain ⟨xi, hxi⟩ : ∃ xi, xi = x.is := ⟨_, rfl⟩
    obtain ⟨xk, hxk⟩ : ∃ xk, xk = (x.a == (a : Int) && (x.b == (b : Int) && x.c == (c : Int))) := ⟨_, rfl⟩
    rw [← hxi, ← hxk] at hhit
    rw [← hxi] at q0
    rw [← hxk] at hkey
    have HXI := Lib.hid hxi; have HXK := Lib.hid hxk
    clear hxi hxk HH
    have hlow := Lib.hid hB
    have HMV : Hid (minV S [a, b, c] S.vars = v) := Lib.hid (by rw [HV.out]; have := HS.out.wf.vle HA.out; show min (min (min _ _) _) _ = _; omega)
    have hne : (0 : Int) ≠ 30 := by decide
    have hms : (xi = true ∧ xk = true) ∨ (xi = false ∨ (xi = true ∧ xk = false)) := by cases xi <;> cases xk <;> simp
    clear hhit
    rcases hms with ⟨rfl, rfl⟩ | hms
    · rcases e45 with ⟨e4, e5⟩ | e4
      all_goals
        obtain ⟨kk, hkk, hkI⟩ : ∃ kk : Nat, x.n = (kk : Int) ∧ IteIs S a b c kk := by
          obtain ⟨a', b', c', k', y1, y2, y3, y4, y5⟩ := HO.out.ca ix hil (by rw [HX.out]; exact HXI.out.symm)
          have hxk := HXK.out
          rw [HX.out] at y1 y2 y3 y4
          simp only [eq_comm (a := true), Bool.and_eq_true, beq_iff_eq] at hxk
          obtain ⟨z1, z2, z3⟩ := hxk
          have t1 : a' = a := by omega
          have t2 : b' = b := by omega
          have t3 : c' = c := by omega
          exact ⟨k', y4, by rw [← t1, ← t2, ← t3]; exact y5⟩
        rw [hkk] at q4
        have HKI := Lib.hid hkI
        clear hkk hkI
        go_enter Tryz.func89, Tryz.ntmps89
        go_wp2_with fail
        go_quiet (fail)
        go_wp2_with fail
        go_ret2
        have hb : Below w.heap.size w ((keyW w a b c).drewN nq) := ((Below.refl _ _).alloc (Nat.le_refl _) _).trans ((bdN' _ _).mono (by simp))
        exact ⟨S, C, HS.out.below hb, HO.out.below hb, Kp.of_below hb, .inl ⟨kk, rfl, IteOk.triv HS.out.wf HKI.out⟩⟩
    · rcases hms with rfl | ⟨rfl, rfl⟩ <;> rcases e45 with ⟨e4, e5⟩ | e4
      all_goals
        go_enter Tryz.func89, Tryz.ntmps89
        go_wp2_with fail
        go_quiet (fail)
        generalize hw1 : (keyW w a b c).drewN nq = w1
        have HB1 : Hid (Below w.heap.size w w1) := by rw [← hw1]; exact Lib.hid (((Below.refl _ _).alloc (Nat.le_refl _) _).trans ((bdN' _ _).mono (by simp)))
        have HKB1 : Hid (Blk w1 w.heap.size 123 #[.int .i64 (a : Int), .int .i64 (b : Int), .int .i64 (c : Int)]) := by rw [← hw1]; exact Lib.hid (HK0.out.drewN_ _)
        have hs1 : w.heap.size < w1.heap.size := HKB1.out.lt
        have HS1 := Lib.hid (HS.out.below HB1.out); have HO1 := Lib.hid (HO.out.below HB1.out)
        have hbl := (Below.refl w1.heap.size w1).alloc (Nat.le_refl _) (.cells #[.int .i64 (a : Int), .int .i64 (b : Int), .int .i64 (c : Int)] 3)
        have HT := Lib.hid (top_ok (w1.alloc (.cells #[.int .i64 (a : Int), .int .i64 (b : Int), .int .i64 (c : Int)] 3)) B p q S (HS1.out.below hbl) ((HO1.out.below hbl).m hsw) (some ⟨w1.heap.size, 0, none⟩) [a, b, c] 3 (by simp) (Cells.lit w1 _ _) (by
          intro k hk
          simp at hk
          rcases hk with rfl | rfl | rfl
          · exact HA.out
          · exact HBB.out
          · exact HC.out))
        rw [HMV.out] at HT
        have HBL := Lib.hid hbl
        clear hw1 hkey hgd q0 q1 q2 q3 q4 c4 hand hbl hql hgl
        have hql := HO1.out.lts.1
        go_wp2_with fail
        refine HT.out.mono ?_
        rintro e w2 ⟨rfl, n2, hw2⟩
        have HB2 : Hid (Below w1.heap.size w1 w2) := by rw [hw2]; exact Lib.hid (HBL.out.trans ((bdN' _ _).mono (by simp)))
        have HS2 := Lib.hid (HS1.out.below HB2.out); have HO2 := Lib.hid (HO1.out.below HB2.out)
        have hql2 := HO2.out.lts.1
        clear hw2
        go_wp2_with fail
        refine (osplit_ok w2 B p q S HS2.out (HO2.out.m hsw) v a HA.out).mono ?_
        rintro e w3 ⟨rfl, n3, hw3⟩
        have HB3 : Hid (Below w2.heap.size w2 w3) := by rw [hw3]; exact Lib.hid (bdN' _ _)
        have HS3 := Lib.hid (HS2.out.below HB3.out); have HO3 := Lib.hid (HO2.out.below HB3.out)
        clear hw3
        go_wp2_with fail
        refine (osplit_ok w3 B p q S HS3.out (HO3.out.m hsw) v b HBB.out).mono ?_
        rintro e w4 ⟨rfl, n4, hw4⟩
        have HB4 : Hid (Below w3.heap.size w3 w4) := by rw [hw4]; exact Lib.hid (bdN' _ _)
        have HS4 := Lib.hid (HS3.out.below HB4.out); have HO4 := Lib.hid (HO3.out.below HB4.out)
        clear hw4
        go_wp2_with fail
        refine (osplit_ok w4 B p q S HS4.out (HO4.out.m hsw) v c HC.out).mono ?_
        rintro e w5 ⟨rfl, n5, hw5⟩
        have HB5 : Hid (Below w4.heap.size w4 w5) := by rw [hw5]; exact Lib.hid (bdN' _ _)
        have HS5 := Lib.hid (HS4.out.below HB5.out); have HO5 := Lib.hid (HO4.out.below HB5.out)
        have HB05 : Hid (Below w1.heap.size w1 w5) := Lib.hid (((HB2.out.trans (HB3.out.mono HB2.out.size)).trans (HB4.out.mono (Nat.le_trans HB2.out.size HB3.out.size))).trans (HB5.out.mono (Nat.le_trans HB2.out.size (Nat.le_trans HB3.out.size HB4.out.size))))
        have HK05 : Hid (Kp TO B w w5) := Lib.hid ((Kp.of_below HB1.out).trans (Kp.of_below HB05.out))
        have HKB5 := Lib.hid (HKB1.out.below HB05.out hs1)
        have hB5 : B ≤ w5.heap.size := by have := HK05.out.size; omega
        clear hw5
        go_wp2_with fail
        refine (IH.out w5 S C (sLow S v a) (sLow S v b) (sLow S v c) (v + 1) HS5.out HO5.out hsw hB5 SA.out.ilo SB.out.ilo SC.out.ilo SA.out.vlo SB.out.vlo SC.out.vlo DA.out.1 DB.out.1 DC.out.1 HF.out).mono ?_
        rintro e w6 ⟨S1, C1, hs6, ho6, hk6, hr⟩
        have HS6 := Lib.hid hs6; have HO6 := Lib.hid ho6; have HK6 := Lib.hid (HK05.out.trans hk6); have HKB6 := Lib.hid (hk6.blk HKB5.out rfl)
        clear hs6 ho6 hk6
        rcases hr with ⟨k1, rfl, hok⟩ | ⟨rfl, hno⟩
        · have HK1 := Lib.hid hok
          have hB6 : B ≤ w6.heap.size := by have := HK6.out.size; omega
          clear hok
          go_wp2_with fail
          refine (IH.out w6 S1 C1 (sHigh S v a) (sHigh S v b) (sHigh S v c) (v + 1) HS6.out HO6.out (by rw [HK1.out.sw]; exact hsw) hB6 (SA.out.ext HK1.out.ext).1 (SB.out.ext HK1.out.ext).1 (SC.out.ext HK1.out.ext).1 (SA.out.ext HK1.out.ext).2 (SB.out.ext HK1.out.ext).2 (SC.out.ext HK1.out.ext).2 (HK1.out.ext.dep HS.out.wf HK1.out.wf SA.out.ihi DA.out.2) (HK1.out.ext.dep HS.out.wf HK1.out.wf SB.out.ihi DB.out.2) (HK1.out.ext.dep HS.out.wf HK1.out.wf SC.out.ihi DC.out.2) (by rw [HK1.out.ext.vars]; exact HF.out)).mono ?_
          rintro e w7 ⟨S2, C2, hs7, ho7, hk7, hr⟩
          have HS7 := Lib.hid hs7; have HO7 := Lib.hid ho7; have HK7 := Lib.hid (HK6.out.trans hk7); have HKB7 := Lib.hid (hk7.blk HKB6.out rfl)
          clear hs7 ho7 hk7
          rcases hr with ⟨k2, rfl, hok⟩ | ⟨rfl, hno⟩
          · have HK2 := Lib.hid hok
            have hB7 : B ≤ w7.heap.size := by have := HK7.out.size; omega
            have hql7 := HO7.out.lts.1
            have c07 : w7.cell? ⟨q, 0, none⟩ = some (.pointer (some ⟨p, 0, none⟩)) := HO7.out.tab.cell 0
            have hab1 := HK1.out.above SA.out.vlo SB.out.vlo SC.out.vlo SA.out.ilo SB.out.ilo SC.out.ilo
            have hab2 := HK2.out.above (SA.out.ext HK1.out.ext).2 (SB.out.ext HK1.out.ext).2 (SC.out.ext HK1.out.ext).2 (SA.out.ext HK1.out.ext).1 (SB.out.ext HK1.out.ext).1 (SC.out.ext HK1.out.ext).1
            have hmk := mkS_any (S := S2) HK2.out.wf (v := v) (lo := k1) (hi := k2) (by have := HS.out.wf.vle HA.out; have := HV.out; have := SA.out.vlo; have := HS.out.wf.vle SA.out.ilo; rw [HK2.out.ext.vars, HK1.out.ext.vars]; omega) (HK2.out.ext.isB HK1.out.is.ik) HK2.out.is.ik (by rw [HK2.out.ext.nds _ HK1.out.is.ik]; exact hab1) hab2
            have HMK := Lib.hid hmk
            clear hok hmk hab1 hab2
            go_wp2_with fail
            refine (nmk_ok w7 B p S2 HS7.out hB7 (v : Int) (k1 : Int) (k2 : Int)).mono ?_
            rintro e w8 ⟨rfl, hs8, hk8⟩
            rcases HMK.out with ⟨S3, k3, hmk, hok3, hsw3⟩ | ⟨hmk, hfull⟩
            · rw [hmk] at hs8 ⊢
              have HS8 := Lib.hid hs8
              have HO8 := Lib.hid ((HO7.out.kb hk8.kb rfl rfl).ext hok3.ext HK2.out.wf hok3.wf hsw3)
              have HK8 := Lib.hid (HK7.out.trans (hk8.mono to_tn (Nat.le_refl _)))
              have hkb := hk8.blk HKB7.out rfl
              have HI8 := Lib.hid (IteOk.node HS.out.wf HA.out HBB.out HC.out HV.out SA.out SB.out SC.out HK1.out HK2.out hok3 hsw3)
              have b0 : w8.cell? ⟨w.heap.size, 0, none⟩ = some (.int .i64 (a : Int)) := hkb.cell 0
              have b1 : w8.cell? ⟨w.heap.size, 1, none⟩ = some (.int .i64 (b : Int)) := hkb.cell 1
              have b2 : w8.cell? ⟨w.heap.size, 2, none⟩ = some (.int .i64 (c : Int)) := hkb.cell 2
              have bl := hkb.lt
              obtain ⟨r0, r1, r2, r3, r4⟩ := HO8.out.cat.at_ hil
              have z0 := HO8.out.cat.frozen (ix * 5); have z1 := HO8.out.cat.frozen (ix * 5 + 1); have z2 := HO8.out.cat.frozen (ix * 5 + 2); have z3 := HO8.out.cat.frozen (ix * 5 + 3); have z4 := HO8.out.cat.frozen (ix * 5 + 4)
              have gl8 := HO8.out.lts.2
              have HN8 := Lib.hid (HO8.out.store (k := ix) hil (x := (⟨true, (a : Int), (b : Int), (c : Int), (k3 : Int)⟩ : Fnd)) (fun _ => ⟨a, b, c, k3, rfl, rfl, rfl, rfl, HI8.out.is⟩))
              clear hs8 hk8 hmk hok3 hsw3 hkb
              go_wp2_with fail
              go_ret2
              refine ⟨S3, updC C2 ix ⟨true, a, b, c, k3⟩, ?_, ?_, HK8.out.trans ((HO8.out.cat.kpStore HO8.out.hg ix ⟨true, a, b, c, k3⟩).mono to_tc (Nat.le_refl _)), .inl ⟨k3, rfl, HI8.out⟩⟩
              · exact HS8.out.kp (HO8.out.cat.kpStore HO8.out.hg ix ⟨true, a, b, c, k3⟩) rfl rfl rfl rfl rfl
              · exact HN8.out
            · rw [hmk] at hs8 ⊢
              have HS8 := Lib.hid hs8
              have HO8 := Lib.hid (HO7.out.kb hk8.kb rfl rfl)
              have HK8 := Lib.hid (HK7.out.trans (hk8.mono to_tn (Nat.le_refl _)))
              have HFU := Lib.hid hfull
              clear hs8 hk8 hmk hfull
              go_wp2_with fail
              go_ret2
              exact ⟨S2, C2, HS8.out, HO8.out, HK8.out, .inr ⟨rfl, IteNo.node HK1.out HK2.out HFU.out⟩⟩
          · have HNO := Lib.hid hno
            clear hno
            go_wp2_with fail
            go_ret2
            exact ⟨S2, C2, HS7.out, HO7.out, HK7.out, .inr ⟨rfl, IteNo.high HK1.out HNO.out⟩⟩
        · have HNO := Lib.hid hno
          clear hno
          go_wp2_with fail
          go_ret2
          exact ⟨S1, C1, HS6.out, HO6.out, HK6.out, .inr ⟨rfl, HNO.out.low⟩⟩
end Go.Proofs.YtobhjkfkdkiigaaGreatDoor

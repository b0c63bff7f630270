/- Layer 6: the contract of count.Sat. -/
import Derived.Test.YtobhjkfkdkiigaaGreatDoorCountE
import Derived.Laws.EntriesVeiled
namespace Go.Proofs.YtobhjkfkdkiigaaGreatDoor
open Go.RowKit HP NP
/-- the memory ahead of the walk -/
theorem sat_start {w : World} {B p vb sb am N : Nat} {va : Option Addr} {vc : Nat} {S : NS} {m : Nat → Option Nat} (hs : Sto w B p S) (hv : Box1 w vb (.slice va N vc)) (hk : Box1 w sb (.pointer (some ⟨p, 0, none⟩))) (hm : IMap w am 256 m) {t1 t2 : TypeId} {ab lb sm mb wb : Nat} (e1 : ab = w.heap.size) (e2 : lb = ab + 1) (e3 : sm = ab + 1 + 1) (e4 : mb = ab + 1 + 1 + 1) (e5 : wb = ab + 1 + 1 + 1 + 1) {w3 : World}
    (hw : w3 = ((((w.alloc (.cells #[.map (some am)] t1)).alloc (.cells #[lvC vb sb ab] t2)).alloc (.map #[] 0)).alloc (.cells #[.map (some sm)] t1)).alloc (.cells #[.nilFunc] t2)) :
    Box1 w3 wb .nilFunc ∧ SatM (w3.setCell ⟨wb, 0, none⟩ (satC mb sb lb wb)) B p vb sb ab lb mb wb am sm N va vc S m (fun _ => none) ∧ Below w.heap.size w (w3.setCell ⟨wb, 0, none⟩ (satC mb sb lb wb)) := by
  obtain ⟨wa, hwa⟩ : ∃ wa, wa = w.alloc (.cells #[.map (some am)] t1) := ⟨_, rfl⟩
  obtain ⟨wb1, hwb⟩ : ∃ wb1, wb1 = wa.alloc (.cells #[lvC vb sb ab] t2) := ⟨_, rfl⟩
  obtain ⟨wc, hwc⟩ : ∃ wc, wc = wb1.alloc (.map #[] 0) := ⟨_, rfl⟩
  obtain ⟨wd, hwd⟩ : ∃ wd, wd = wc.alloc (.cells #[.map (some sm)] t1) := ⟨_, rfl⟩
  rw [← hwa, ← hwb, ← hwc, ← hwd] at hw
  have z1 : wa.heap.size = ab + 1 := by rw [hwa, e1]; simp
  have z2 : wb1.heap.size = ab + 1 + 1 := by rw [hwb, ← z1]; simp
  have z3 : wc.heap.size = ab + 1 + 1 + 1 := by rw [hwc, ← z2]; simp
  have z4 : wd.heap.size = ab + 1 + 1 + 1 + 1 := by rw [hwd, ← z3]; simp
  have b1 : Below w.heap.size w wa := by rw [hwa]; exact (Below.refl _ _).alloc (Nat.le_refl _) _
  have b2 : Below wa.heap.size wa wb1 := by rw [hwb]; exact (Below.refl _ _).alloc (Nat.le_refl _) _
  have b3 : Below wb1.heap.size wb1 wc := by rw [hwc]; exact (Below.refl _ _).alloc (Nat.le_refl _) _
  have b4 : Below wc.heap.size wc wd := by rw [hwd]; exact (Below.refl _ _).alloc (Nat.le_refl _) _
  have b5 : Below wd.heap.size wd w3 := by rw [hw]; exact (Below.refl _ _).alloc (Nat.le_refl _) _
  have k1 : Box1 wa ab (.map (some am)) := ⟨t1, by rw [hwa, e1]; exact Blk.new_ _ _ _⟩
  have k2 : Box1 wb1 lb (lvC vb sb ab) := ⟨t2, by rw [hwb, e2, ← z1]; exact Blk.new_ _ _ _⟩
  have s3 : IMap wc sm S.l.length (fun _ => none) := by rw [hwc, e3, ← z2]; exact IMap.new _ _
  have k4 : Box1 wd mb (.map (some sm)) := ⟨t1, by rw [hwd, e4, ← z3]; exact Blk.new_ _ _ _⟩
  have k5 : Blk w3 wb t2 #[.nilFunc] := by rw [hw, e5, ← z4]; exact Blk.new_ _ _ _
  have c4 := b4.trans (b5.mono b4.size)
  have c3 := b3.trans (c4.mono b3.size)
  have c2 := b2.trans (c3.mono b2.size)
  have c1 := b1.trans (c2.mono b1.size)
  have hset : Below wd.heap.size w3 (w3.setCell ⟨wb, 0, none⟩ (satC mb sb lb wb)) := (Below.refl _ _).setCell (by show wd.heap.size ≤ wb; omega) _
  have f5 : Blk (w3.setCell ⟨wb, 0, none⟩ (satC mb sb lb wb)) wb t2 #[satC mb sb lb wb] := k5.set_ 0 _
  have d1 : Below w.heap.size w (w3.setCell ⟨wb, 0, none⟩ (satC mb sb lb wb)) := c1.trans (hset.mono (by omega))
  have d2 : Below wa.heap.size wa (w3.setCell ⟨wb, 0, none⟩ (satC mb sb lb wb)) := c2.trans (hset.mono (by omega))
  have d3 : Below wb1.heap.size wb1 (w3.setCell ⟨wb, 0, none⟩ (satC mb sb lb wb)) := c3.trans (hset.mono (by omega))
  have d4 : Below wc.heap.size wc (w3.setCell ⟨wb, 0, none⟩ (satC mb sb lb wb)) := c4.trans (hset.mono (by omega))
  have d5 : Below wd.heap.size wd (w3.setCell ⟨wb, 0, none⟩ (satC mb sb lb wb)) := b5.trans hset
  have hlt : am < w.heap.size := MapAt.lt hm
  exact ⟨⟨_, k5⟩, ⟨⟨hs.below d1, hv.below d1, hk.below d1, k1.below d2, MapAt.below hm d1⟩, k2.below d3, k4.below d5, ⟨_, f5⟩, MapAt.below s3 d4, by omega⟩, d1⟩
/-- for how many values a node says true, of all variables -/
noncomputable def satT (m : Nat → Option Nat) (N : Nat) (S : NS) (k : Nat) : Int := mulS (satV m N S k) (powS (levK (lvO m) N S.l k : Int))
def SatPost (S : NS) (k : Int) (zs : List Int) (w : World) (e : Ending) (w' : World) : Prop :=
  Below w.heap.size w w' ∧ ((withE S k zs ≠ 0 ∧ e = .returned (.tuple #[.int .i64 0, .int .i64 (withE S k zs)])) ∨
    (withE S k zs = 0 ∧ ∃ m, PosOf (srt zs) m ∧ e = .returned (.tuple #[.int .i64 (satT m zs.length S k.toNat), .int .i64 0])))
theorem withE_zero {S : NS} {k : Int} {zs : List Int} (h : withE S k zs = 0) : okV S zs ∧ isK S.l k = true ∧ askAll S k.toNat zs := by
  unfold withE at h
  split at h
  · cases h
  · rename_i h1
    split at h
    · cases h
    · rename_i h2
      split at h
      · rename_i h3
        refine ⟨Classical.byContradiction h1, ?_, h3⟩
        cases hk : isK S.l k with
        | true => rfl
        | false => exact absurd hk h2
      · cases h
theorem okV_len {S : NS} (hW : Wf S) {zs : List Int} (h : okV S zs) : zs.length ≤ 256 := by
  obtain ⟨h1, h2⟩ := h
  have hn : (toNs zs).Nodup := by
    unfold toNs List.Nodup
    rw [List.pairwise_map]
    refine h2.imp_of_mem fun {a b} ha hb hne e => hne ?_
    have := inV_iff.1 (h1 a ha); have := inV_iff.1 (h1 b hb)
    omega
  have hr : ∀ v ∈ toNs zs, v < 256 := fun v hv => by
    unfold toNs at hv
    obtain ⟨z, hz, rfl⟩ := List.mem_map.1 hv
    have := inV_iff.1 (h1 z hz); have := hW.v256; omega
  have := (cnt_list (toNs zs) 256 hr).2.2 hn
  have h3 := cntS_le (fun v => decide (v ∈ toNs zs)) 256
  rw [this] at h3
  unfold toNs at h3
  rw [List.length_map] at h3
  exact h3
set_option maxRecDepth 100000 in
set_option maxHeartbeats 6400000 in
theorem csat_ok (w : World) (B p : Nat) (S : NS) (h : Sto w B p S) (k : Int) (a : Option Addr) (zs : List Int) (c : Nat) (hl : zs.length ≤ 1000) (hc : Cells w a (zV zs)) (hwf : ∀ z ∈ zs, (Lit.int .i64 z).wf = true) :
    Calls Tryz.prog 95 #[.pointer (some ⟨p, 0, none⟩), .int .i64 k, .slice a zs.length c] w (SatPost S k zs w) := by
  have hmk := @run_makeMap Tryz.prog
  have hmf : ∀ (fn : Fn) (first cap : Array Value) (w : World), (Instr.makeFunc fn first cap).run Tryz.prog w = .ok (.func fn first cap) w := fun _ _ _ _ => rfl
  obtain ⟨w1, hw1⟩ : ∃ w1, w1 = (w.alloc (.cells #[.pointer (some ⟨p, 0, none⟩)] 23)).alloc (.cells #[.slice a zs.length c] 45) := ⟨_, rfl⟩
  have hb1 : Below w.heap.size w w1 := by rw [hw1]; exact ((Below.refl _ _).alloc (Nat.le_refl _) _).alloc (by simp) _
  obtain ⟨sb, hsb⟩ : ∃ sb, sb = w.heap.size := ⟨_, rfl⟩
  obtain ⟨vb, hvb⟩ : ∃ vb, vb = sb + 1 := ⟨_, rfl⟩
  have k1 : Box1 w1 sb (.pointer (some ⟨p, 0, none⟩)) := ⟨_, by rw [hw1, hsb]; exact (Blk.new_ _ _ _).alloc_ _⟩
  have k2 : Box1 w1 vb (.slice a zs.length c) := ⟨45, by
    have h := Blk.new_ (w.alloc (.cells #[.pointer (some ⟨p, 0, none⟩)] 23)) 45 #[.slice a zs.length c]
    rw [World.size_alloc] at h
    rw [hw1, hvb, hsb]; exact h⟩
  have HWI := Lib.hid (within_ok w1 B p S (h.below hb1) k a zs c hl (hc.below hb1) hwf)
  have HS1 := Lib.hid (h.below hb1)
  obtain ⟨N, hN⟩ : ∃ N, zs.length = N := ⟨_, rfl⟩
  rw [hN] at HWI hl hw1 k2 ⊢
  have HN := Lib.hid hN
  have x1 := k1.cell; have x2 := k2.cell
  have HW1 := Lib.hid hw1; have HSB := Lib.hid hsb; have HVB := Lib.hid hvb; have HB1 := Lib.hid hb1; have HK1 := Lib.hid k1; have HK2 := Lib.hid k2
  clear h hc hwf hN hw1 hsb hvb hb1 k1 k2
  go_enter Tryz.func95, Tryz.ntmps95
  go_upto_region 1 with (fail)
  rw [← HW1.out]
  rw [← HSB.out, ← HVB.out]
  go_wp2_with fail
  refine HWI.out.mono ?_
  rintro e w2 ⟨hb2, h | h⟩
  · obtain ⟨hne, rfl⟩ := h
    have HB2 := Lib.hid (HB1.out.trans (hb2.mono HB1.out.size))
    obtain ⟨er, her⟩ : ∃ er, withE S k zs = er := ⟨_, rfl⟩
    rw [her] at hne ⊢
    have e1 : (er != 0) = true := by rw [bne_iff_ne]; exact hne
    have HER := Lib.hid her; have HNE := Lib.hid hne
    clear hb2 her hne x1 x2
    go_wp2_with fail
    go_ret2
    exact ⟨HB2.out.alloc HB2.out.size _, .inl ⟨by rw [HER.out]; exact HNE.out, by rw [HER.out]; rfl⟩⟩
  · obtain ⟨hz, am, m, rfl, hamw, hmap, hpos, hlv⟩ := h
    obtain ⟨hok, hk, ha⟩ := withE_zero hz
    obtain ⟨kn, rfl, hkb⟩ := isK_out hk
    have hN256 := okV_len HS1.out.wf hok
    rw [HN.out] at hN256 hlv
    have HB2 := Lib.hid (HB1.out.trans (hb2.mono HB1.out.size))
    have HS2 := Lib.hid (HS1.out.below hb2); have HK12 := Lib.hid (HK1.out.below hb2); have HK22 := Lib.hid (HK2.out.below hb2)
    have HMP := Lib.hid hmap; have HPS := Lib.hid hpos; have HLV := Lib.hid hlv; have HZ := Lib.hid hz; have HKB := Lib.hid hkb
    clear hz hamw hmap hpos hlv hok hk ha hkb hb2 x1 x2
    obtain ⟨ab, hab⟩ : ∃ ab, ab = w2.heap.size := ⟨_, rfl⟩
    obtain ⟨lb, hlb⟩ : ∃ lb, lb = ab + 1 := ⟨_, rfl⟩
    obtain ⟨sm, hsm⟩ : ∃ sm, sm = ab + 1 + 1 := ⟨_, rfl⟩
    obtain ⟨mb, hmb⟩ : ∃ mb, mb = ab + 1 + 1 + 1 := ⟨_, rfl⟩
    obtain ⟨wb, hwb⟩ : ∃ wb, wb = ab + 1 + 1 + 1 + 1 := ⟨_, rfl⟩
    obtain ⟨w3, hw3⟩ : ∃ w3, w3 = ((((w2.alloc (.cells #[.map (some am)] 147)).alloc (.cells #[lvC vb sb ab] 202)).alloc (.map #[] 0)).alloc (.cells #[.map (some sm)] 147)).alloc (.cells #[.nilFunc] 202) := ⟨_, rfl⟩
    obtain ⟨kwb, hm4, hb24⟩ := sat_start HS2.out HK22.out HK12.out HMP.out hab hlb hsm hmb hwb hw3
    have y1 := kwb.cell
    have y2 := kwb.frozen
    have y3 := kwb.lt
    unfold lvC at hw3
    have HAB := Lib.hid hab; have HLB := Lib.hid hlb; have HSM := Lib.hid hsm; have HMB := Lib.hid hmb; have HWB := Lib.hid hwb; have HW3 := Lib.hid hw3
    have HM4 := Lib.hid hm4; have HB24 := Lib.hid hb24
    clear hab hlb hsm hmb hwb hw3 kwb hm4 hb24
    go_upto_region 7 with (fail)
    rw [← HAB.out]
    rw [← HWB.out, ← HMB.out, ← HSM.out, ← HLB.out]
    rw [← HW3.out]
    go_upto_region 8 with (fail)
    have hz34 := HM4.out.b6.lt
    obtain ⟨w4, hw4⟩ : ∃ w4, w4 = w3.setCell ⟨wb, 0, none⟩ (satC mb sb lb wb) := ⟨_, rfl⟩
    rw [← hw4] at HM4 HB24 hz34
    have HW4 : Hid (w3.setCell ⟨wb, 0, none⟩ (.func (.func 124) #[] #[.pointer (some ⟨mb, 0, none⟩), .pointer (some ⟨sb, 0, none⟩), .pointer (some ⟨lb, 0, none⟩), .pointer (some ⟨wb, 0, none⟩)]) = w4) := Lib.hid hw4.symm
    clear hw4 y1 y2 y3 hz34
    rw [HW4.out]
    have hes := call_sat
    have hel := call_lv
    have hsW := HS1.out.wf
    have HWK : Hid (∀ W, SatM W B p vb sb ab lb mb wb am sm N a c S m (fun _ => none) → Calls Tryz.prog 124 #[.int .i64 (kn : Int), .pointer (some ⟨mb, 0, none⟩), .pointer (some ⟨sb, 0, none⟩), .pointer (some ⟨lb, 0, none⟩), .pointer (some ⟨wb, 0, none⟩)] W (SatWalked B p vb sb ab lb mb wb am sm N a c S m kn W)) := Lib.hid (fun W h => sat_ok B p vb sb ab lb mb wb am sm N a c S m hN256 HLV.out 257 W kn _ h HKB.out (by have := hsW.v256; omega) (fun k n hn => by cases hn))
    have HLK : Hid (∀ W, LvM W B p vb sb ab am N a c S m → Calls Tryz.prog 123 #[.int .i64 (kn : Int), .pointer (some ⟨vb, 0, none⟩), .pointer (some ⟨sb, 0, none⟩), .pointer (some ⟨ab, 0, none⟩)] W fun e w' => e = .returned (.int .i64 (levK (lvO m) N S.l kn : Int)) ∧ ∃ n, w' = W.drewN n) := Lib.hid (fun W h => level_ok W B p vb sb ab am N a c S m h kn HKB.out)
    have HCUR := Lib.hid (HM4.out.below ((Below.refl _ _).drew))
    have HBC : Hid (Below w.heap.size w w4.drew) := Lib.hid (HB2.out.trans (HB24.out.drew.mono HB2.out.size))
    have hamw := Nat.le_of_lt (MapAt.lt HMP.out)
    have HSMG : Hid (w.heap.size ≤ sm) := Lib.hid (by have := HB2.out.size; have := HAB.out; have := HSM.out; omega)
    obtain ⟨lvk, hlvk⟩ : ∃ x, levK (lvO m) N S.l kn = x := ⟨_, rfl⟩
    have HLVK := Lib.hid hlvk
    rw [hlvk] at HLK
    clear hlvk hsW hamw
    go_region_held3 (fun W => W.cell? ⟨wb, 0, none⟩ = some (.func (.func 124) #[] #[.pointer (some ⟨mb, 0, none⟩), .pointer (some ⟨sb, 0, none⟩), .pointer (some ⟨lb, 0, none⟩), .pointer (some ⟨wb, 0, none⟩)]) ∧ W.cell? ⟨lb, 0, none⟩ = some (.func (.func 123) #[] #[.pointer (some ⟨vb, 0, none⟩), .pointer (some ⟨sb, 0, none⟩), .pointer (some ⟨ab, 0, none⟩)]))
      (with_reducible exact HCUR.out.held) (first | (go_at_call 124; ((with_reducible refine (HWK.out _ HCUR.out).mono ?_); rintro e w' ⟨rfl, o', hs', ho', hc'⟩; have HCUR := Lib.hid hs'; have HBC := Lib.hid (HBC.out.trans (Only.below hc' (fun i hi _ hf => by have := HSMG.out; omega) HBC.out.size)); clear hs' ho' hc')) | (go_at_call 123; ((with_reducible refine (HLK.out _ HCUR.out.toLvM).mono ?_); rintro e w' ⟨rfl, nn, hw'⟩; have hbb := drew_b hw'; have HCUR := Lib.hid (HCUR.out.below hbb); have HBC := Lib.hid (HBC.out.trans (hbb.mono HBC.out.size)); clear hw' hbb)) | (go_at_call 127; refine (pow_ok _ _).mono ?_; rintro e w' ⟨rfl, rfl⟩) | (go_at_call 126; refine (mul_ok _ _ _).mono ?_; rintro e w' ⟨rfl, rfl⟩))
    go_wp2_with fail
    go_ret2
    exact ⟨HBC.out, .inr ⟨HZ.out, m, HPS.out, by rw [Int.toNat_natCast, HN.out]; unfold satT; rw [HLVK.out]; rfl⟩⟩
end Go.Proofs.YtobhjkfkdkiigaaGreatDoor

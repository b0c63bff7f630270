/- Layer 9: Join, of the law's relations alone. -/
import Derived.Test.YtobhjkfkdkiigaaGreatDoorRelH
namespace Go.Proofs.YtobhjkfkdkiigaaGreatDoor
open Go.RowKit HP NP LY
set_option maxRecDepth 100000 in
set_option maxHeartbeats 6400000 in
theorem join_ok (w : World) (B p q qn cb xb : Nat) (S : NS) (h : Rl w B p q qn cb xb S) (ra rda ta tda : Option Addr) (rac rdc tac tdc kr kt : Nat) (hr : RelOk w S ⟨ra, rac, rda, rdc, 2, [sX, sY], [0, 1], kr⟩) (ht : RelOk w S ⟨ta, tac, tda, tdc, 2, [sY, sZ], [2, 1], kt⟩) (hroom : NP.cnt S.l + 303 ≤ S.budget) :
    Calls Tryz.prog 12 #[.pointer (some ⟨xb, 0, none⟩), rdV ⟨ra, rac, rda, rdc, 2, [sX, sY], [0, 1], kr⟩, rdV ⟨ta, tac, tda, tdc, 2, [sY, sZ], [2, 1], kt⟩] w (JoinPost B p q qn cb xb S kr kt w) := by
  have H := Lib.hid h; have HR := Lib.hid hr; have HT := Lib.hid ht; have HRM := Lib.hid hroom
  clear h hr ht hroom
  go_enter Tryz.func12, Tryz.ntmps12
  go_wp2_with fail
  obtain ⟨W0, hW0⟩ : ∃ W0, W0 = ((((w.alloc (.cells #[.slice ra 2 rac, .slice rda 2 rdc, .int .i64 (kr : Int)] 48)).alloc (.cells #[.slice ta 2 tac, .slice tda 2 tdc, .int .i64 (kt : Int)] 48)).alloc (.cells #[.slice none 0 0, .slice none 0 0, .int .i64 0] 48)).alloc (.cells #[.slice ra 2 rac, .slice rda 2 rdc, .int .i64 (kr : Int), .slice ta 2 tac, .slice tda 2 tdc, .int .i64 (kt : Int)] 48)) := ⟨_, rfl⟩
  have hb0 : Below w.heap.size w W0 := by rw [hW0]; exact ((((Below.refl _ _).alloc (Nat.le_refl _) _).alloc (by simp) _).alloc (by simp; omega) _).alloc (by simp; omega) _
  have hr0 : Blk W0 w.heap.size 48 #[.slice ra 2 rac, .slice rda 2 rdc, .int .i64 (kr : Int)] := by rw [hW0]; exact (((Blk.new_ _ _ _).alloc_ _).alloc_ _).alloc_ _
  have ht0 : Blk W0 (w.heap.size + 1) 48 #[.slice ta 2 tac, .slice tda 2 tdc, .int .i64 (kt : Int)] := by
    rw [hW0]
    refine (Blk.alloc_ ?_ _).alloc_ _
    have := Blk.new_ (w.alloc (.cells #[.slice ra 2 rac, .slice rda 2 rdc, .int .i64 (kr : Int)] 48)) 48 #[.slice ta 2 tac, .slice tda 2 tdc, .int .i64 (kt : Int)]
    simpa using this
  have hy0 : Blk W0 (w.heap.size + 1 + 1) 48 #[.slice none 0 0, .slice none 0 0, .int .i64 0] := by
    rw [hW0]
    refine Blk.alloc_ ?_ _
    have := Blk.new_ ((w.alloc (.cells #[.slice ra 2 rac, .slice rda 2 rdc, .int .i64 (kr : Int)] 48)).alloc (.cells #[.slice ta 2 tac, .slice tda 2 tdc, .int .i64 (kt : Int)] 48)) 48 #[.slice none 0 0, .slice none 0 0, .int .i64 0]
    simpa using this
  have hz0 : Blk W0 (w.heap.size + 1 + 1 + 1) 48 #[.slice ra 2 rac, .slice rda 2 rdc, .int .i64 (kr : Int), .slice ta 2 tac, .slice tda 2 tdc, .int .i64 (kt : Int)] := by
    rw [hW0]
    have := Blk.new_ (((w.alloc (.cells #[.slice ra 2 rac, .slice rda 2 rdc, .int .i64 (kr : Int)] 48)).alloc (.cells #[.slice ta 2 tac, .slice tda 2 tdc, .int .i64 (kt : Int)] 48)).alloc (.cells #[.slice none 0 0, .slice none 0 0, .int .i64 0] 48)) 48 #[.slice ra 2 rac, .slice rda 2 rdc, .int .i64 (kr : Int), .slice ta 2 tac, .slice tda 2 tdc, .int .i64 (kt : Int)]
    simpa using this
  rw [← hW0]
  obtain ⟨g, hg⟩ : ∃ g, g = w.heap.size := ⟨_, rfl⟩
  rw [← hg] at hr0 ht0 hy0 hz0 ⊢
  have HG := Lib.hid hg
  have hmay := rmay_ok W0 B p q qn cb xb S (H.out.below hb0) (some ⟨g + 1 + 1 + 1, 0, none⟩) 2 [⟨ra, rac, rda, rdc, 2, [sX, sY], [0, 1], kr⟩, ⟨ta, tac, tda, tdc, 2, [sY, sZ], [2, 1], kt⟩] (by simp) (fun _ => ⟨g + 1 + 1 + 1, 0, rfl, hz0.lt, fun i v hv => by
      rw [Nat.zero_add, hz0.cell]
      rw [← Array.getElem?_toList]; exact hv⟩) (tb_some ⟨_, hz0⟩) (fun r hr => by
      rcases List.mem_cons.1 hr with rfl | hr
      · exact HR.out.below hb0
      · rw [List.mem_singleton] at hr; subst hr; exact HT.out.below hb0)
  have HMAY := Lib.hid hmay
  have HB0 := Lib.hid hb0; have HR0 := Lib.hid hr0; have HT0 := Lib.hid ht0; have HY0 := Lib.hid hy0
  clear hb0 hr0 ht0 hy0 hz0 hW0 hg hmay
  refine HMAY.out.mono ?_
  rintro e w1 ⟨rfl, hrl, hks⟩
  have HRL := Lib.hid hrl; have HKS : Hid (Ks TX' B w w1) := Lib.hid ((Ks.below HB0.out H.out.cd.low).trans (hks.mono fun t ht => by
    show (TO t || t == 97) = true
    rw [Bool.or_eq_true]; exact .inr ht))
  have HR1 := Lib.hid (hks.kb _ _ _ HR0.out rfl); have HT1 := Lib.hid (hks.kb _ _ _ HT0.out rfl); have HY1 := Lib.hid (hks.kb _ _ _ HY0.out rfl)
  clear hrl hks HMAY HR0 HT0 HY0
  have hro := (HR.out.kb HKS.out.kb rfl rfl)
  have r0 : w1.cell? ⟨g, 0, none⟩ = some (.slice ra 2 rac) := HR1.out.cell 0
  have r1 : w1.cell? ⟨g, 1, none⟩ = some (.slice rda 2 rdc) := HR1.out.cell 1
  have rl := HR1.out.lt
  have HRO := Lib.hid hro
  clear hro
  go_wp2_with fail
  go_cut [8] (fun x wx => ∃ (oa oda : Option Addr) (oac odc gb : Nat), x = .pointer (some ⟨gb, 0, none⟩) ∧ JO w1 wx gb (.slice oa 2 oac) (.slice oda 2 odc) [sX, sY] [0, 1])
  case first =>
    have HKP : Hid (∀ W, Below w1.heap.size w1 W → W.cell? ⟨g, 0, none⟩ = some (.slice ra 2 rac) ∧ W.cell? ⟨g, 1, none⟩ = some (.slice rda 2 rdc)) := Lib.hid fun W hW => ⟨(hW.cell (p := ⟨g, _, none⟩) rl).trans r0, (hW.cell (p := ⟨g, _, none⟩) rl).trans r1⟩
    have HSC : Hid (∀ W, Below w1.heap.size w1 W → Calls Tryz.prog 30 #[.slice ra 2 rac] W fun e w' => Below w1.heap.size w1 w' ∧ Below W.heap.size W w' ∧ ∃ a' c', e = .returned (.slice a' 2 c') ∧ w'.ownsRow w1.heap.size 9 1 (.slice a' 2 c') 2 ([sX, sY].map Value.string)) := Lib.hid fun W hW =>
      (cloneSo_ok W w1.heap.size hW.size ra [sX, sY] 2 rac rfl (by decide) (by decide) (HRO.out.ac.below hW)).mono fun e w' h => ⟨hW.trans (h.1.mono hW.size), h.1, h.2⟩
    have HIC : Hid (∀ W, Below w1.heap.size w1 W → Calls Tryz.prog 31 #[.slice rda 2 rdc] W fun e w' => Below w1.heap.size w1 w' ∧ Below W.heap.size W w' ∧ ∃ a' c', e = .returned (.slice a' 2 c') ∧ w'.ownsRow w1.heap.size 3 1 (.slice a' 2 c') 2 (zV (zN [0, 1]))) := Lib.hid fun W hW =>
      (cloneIo_ok W w1.heap.size hW.size rda (zN [0, 1]) 2 rdc rfl (by decide) (by decide) (HRO.out.dc.below hW).c).mono fun e w' h => ⟨hW.trans (h.1.mono hW.size), h.1, h.2⟩
    have HK0 := Lib.hid (HKP.out _ (Below.refl w1.heap.size w1).drew)
    have HBOX : Hid (∀ W W' : World, Below (W.alloc (.cells #[.slice none 0 0, .slice none 0 0, .int .i64 0] 48)).heap.size (W.alloc (.cells #[.slice none 0 0, .slice none 0 0, .int .i64 0] 48)) W' → Blk W' W.heap.size 48 #[.slice none 0 0, .slice none 0 0, .int .i64 0]) := Lib.hid fun W W' h => (Blk.new_ W _ _).below h (by simp)
    have HBOXD : Hid (∀ W W' : World, Below (W.alloc (.cells #[.slice none 0 0, .slice none 0 0, .int .i64 0] 48)).drew.heap.size (W.alloc (.cells #[.slice none 0 0, .slice none 0 0, .int .i64 0] 48)).drew W' → Blk W' W.heap.size 48 #[.slice none 0 0, .slice none 0 0, .int .i64 0]) := Lib.hid fun W W' h => (Blk.new_ W _ _).drew_.below h (by simp)
    clear r0 r1 rl
    go_region_held3 (fun W => W.cell? ⟨g, 0, none⟩ = some (.slice ra 2 rac) ∧ W.cell? ⟨g, 1, none⟩ = some (.slice rda 2 rdc)) (first | with_reducible exact HK0.out | with_reducible exact HK2.out | with_reducible exact HK3.out | with_reducible exact HKP.out _ (hbw3.alloc hbw3.size _) | with_reducible exact HKP.out _ (hbw2.alloc hbw2.size _) | with_reducible exact HKP.out _ ((Below.refl _ _).alloc (Nat.le_refl _) _).drew | with_reducible exact HKP.out _ (((hbw3.setCell hbw2.size _).setCell hbw2.size _).setCell hbw2.size _) | with_reducible exact HKP.out _ (((hbw3.setCell (Nat.le_refl _) _).setCell (Nat.le_refl _) _).setCell (Nat.le_refl _) _)) (first | (go_at_call 30; ((with_reducible refine (HSC.out _ (by first | with_reducible exact (Below.refl _ _).drew | with_reducible exact ((Below.refl _ _).alloc (Nat.le_refl _) _).drew)).mono ?_); rintro e w2 ⟨hbw2, hb2, oa, oac, rfl, hot⟩; have HK2 := Lib.hid (HKP.out _ hbw2); first | (have hx2 := HBOXD.out _ _ hb2) | skip)) | (go_at_call 31; ((with_reducible refine (HIC.out _ (by first | with_reducible exact hbw2 | with_reducible exact hbw2.alloc hbw2.size _)).mono ?_); rintro e w3 ⟨hbw3, hb3, oda, odc, rfl, hod⟩; have HK3 := Lib.hid (HKP.out _ hbw3); first | (have hx3 := hx2.below hb3 hx2.lt; have q0 := hx3.cell 0; have q1 := hx3.cell 1; have q2 := hx3.cell 2; have f0 := hx3.frozen 0; have f1 := hx3.frozen 1; have f2 := hx3.frozen 2; have ql := hx3.lt) | (have hx3 := HBOX.out _ _ hb3; have q0 := hx3.cell 0; have q1 := hx3.cell 1; have q2 := hx3.cell 2; have f0 := hx3.frozen 0; have f1 := hx3.frozen 1; have f2 := hx3.frozen 2; have ql := hx3.lt) | skip)))
    all_goals
      clear HK2 HK3
      go_wp2_with fail
      go_meet
      case rel =>
        first
        | (have ht3 := own_below hot hb3
           have hal : Below w3.heap.size w3 (w3.alloc (.cells #[.slice oa 2 oac, .slice oda 2 odc, .int .i64 0] 48)) := (Below.refl _ _).alloc (Nat.le_refl _) _
           exact ⟨oa, oda, oac, odc, w3.heap.size, rfl, hbw3.alloc hbw3.size _, Blk.new_ _ _ _, own_below ht3 hal, own_below hod hal, hbw3.size⟩)
        | (have ht3 := own_below (own_below hot ((Below.refl w2.heap.size w2).alloc (Nat.le_refl _) _)) hb3
           obtain ⟨k1, k2⟩ := setbox hx3 (.slice oa 2 oac) (.slice oda 2 odc) (.int .i64 0)
           exact ⟨oa, oda, oac, odc, w2.heap.size, rfl, ((hbw3.setCell hbw2.size _).setCell hbw2.size _).setCell hbw2.size _, k2, own_kb ht3 k1.kb rfl, own_kb hod k1.kb rfl, hbw2.size⟩)
        | (have ht3 := own_below hot hb3
           obtain ⟨k1, k2⟩ := setbox hx3 (.slice oa 2 oac) (.slice oda 2 odc) (.int .i64 0)
           exact ⟨oa, oda, oac, odc, w1.heap.size, rfl, ((hbw3.setCell (Nat.le_refl _) _).setCell (Nat.le_refl _) _).setCell (Nat.le_refl _) _, k2, own_kb ht3 k1.kb rfl, own_kb hod k1.kb rfl, Nat.le_refl _⟩)
  case rest =>
    obtain ⟨oa, oda, oac, odc, gb, rfl, hj⟩ := hcut
    have HJ := Lib.hid hj
    have HM2 := Lib.hid (BMap.new wc)
    have hmk := @run_makeMap Tryz.prog
    clear hj HRO r0 r1 rl HB0
    go_upto_region 5 with (fail)
    obtain ⟨am, ham⟩ : ∃ am, am = wc.heap.size := ⟨_, rfl⟩
    obtain ⟨w3, hw3⟩ : ∃ w3, w3 = wc.alloc (.map #[] 0) := ⟨_, rfl⟩
    have hb3 : Below wc.heap.size wc w3 := by rw [hw3]; exact (Below.refl _ _).alloc (Nat.le_refl _) _
    rw [← hw3, ← ham] at HM2
    rw [← ham, ← hw3]
    have HAM := Lib.hid (show w1.heap.size ≤ am by rw [ham]; exact HJ.out.1.size)
    have HJ3 := Lib.hid (HJ.out.below hb3)
    have hr3 := HR1.out.below HJ3.out.1 HR1.out.lt
    have ht3 := HT1.out.below HJ3.out.1 HT1.out.lt
    have c0 : w3.cell? ⟨g, 1, none⟩ = some (.slice rda 2 rdc) := hr3.cell 1
    have cl := hr3.lt
    have c1 : w3.cell? ⟨g + 1, 1, none⟩ = some (.slice tda 2 tdc) := ht3.cell 1
    have cl1 := ht3.lt
    have HT3 := Lib.hid ht3
    have HRR := Lib.hid ((HR.out.kb HKS.out.kb rfl rfl).below HJ3.out.1); have HTT := Lib.hid ((HT.out.kb HKS.out.kb rfl rfl).below HJ3.out.1)
    clear hb3 hw3 ham hr3 ht3 HJ hmk
    obtain ⟨j0, hj0, yz0, yz1, yz2⟩ := info_parts int_infoL
    have HIC : Hid (Calls Tryz.prog 31 #[.slice rda 2 rdc] w3.drew fun e w' => Below w3.heap.size w3 w' ∧ ∃ a' c', e = .returned (.slice a' 2 c') ∧ w'.ownsRow w3.heap.size 3 1 (.slice a' 2 c') 2 (zV (zN [0, 1]))) := Lib.hid
      ((cloneIo_ok w3.drew w3.heap.size (Nat.le_refl _) rda (zN [0, 1]) 2 rdc rfl (by decide) (by decide) (HRR.out.dc.below (Below.refl _ _).drew).c).mono fun e w' h => ⟨(Below.refl w3.heap.size w3).drew.trans h.1, h.2⟩)
    go_cut [41, 42, 43] (fun x y z w5 => ∃ (ea : Option Addr) (ec : Nat), x = .slice ea 4 ec ∧ y = .int .i64 4 ∧ z = .int .i64 0 ∧ w5.ownsRow w3.heap.size 3 1 (.slice ea 4 ec) 4 (zV (zN [0, 1, 2, 1])) ∧ Below w3.heap.size w3 w5)
    case first =>
      go_region_law (first | (go_simp; go_at_call 31; (with_reducible refine HIC.out.mono ?_); rintro e w4 ⟨hb4, ca, cc, rfl, hown⟩; have hx4 := HT3.out.below hb4 HT3.out.lt; have q0 : w4.cell? ⟨g + 1, 1, none⟩ = some (.slice tda 2 tdc) := hx4.cell 1; have ql := hx4.lt; have HC4 := Lib.hid (HTT.out.dc.below hb4).c; have HO4 := Lib.hid (And.intro hown hb4); clear hx4 hown hb4) | (refine step_append_src rfl (.tmp 38) (.tmp 40) 45 rfl w3.heap.size 3 j0 (.int .i64 0) 1 8 Tryz.underlying45 hj0 yz0 yz1 yz2 rfl (by decide) (.slice ca 2 cc) 2 _ (by simp [Act.eval]) HO4.out.1 tda 2 tdc (zV (zN [2, 1])) (by simp [Act.eval]) rfl HC4.out (by simp [zV, zN, Value.oneCell']) (by unfold maxLen; omega) (by omega) HO4.out.2.size ?_; intro v5 w5 hown5 hg5; obtain ⟨ea, ec, rfl⟩ := own_shape hown5; have H5 := Lib.hid (And.intro hown5 (HO4.out.2.grown hg5 HO4.out.2.size (fun j hj => (HO4.out.1.lt j hj).1))); clear hown5 hg5))
      all_goals
        go_wp2_with fail
        go_meet
        case rel => exact ⟨ea, ec, rfl, rfl, rfl, H5.out.1, H5.out.2⟩
    case rest =>
      obtain ⟨ea, ec, rfl, rfl, rfl, hown, hb5⟩ := hcut
      have HJ5 := Lib.hid (HJ3.out.below hb5); have HM5 : Hid (BMap wc am (tkM [])) := Lib.hid (by rw [tkM_nil]; exact MapAt.below HM2.out hb5); have HO5 := Lib.hid hown
      clear c0 cl c1 cl1 hown hb5 HIC HRR HTT HT3
      go_wp2_with fail
      go_loopg [43] 4 (fun mm x wr => ∃ i : Nat, mm + i = 4 ∧ x = .int .i64 (i : Int) ∧ BMap wr am (tkM ([0, 1, 2, 1].take i)) ∧ JO w1 wr gb (.slice oa 2 oac) (.slice oda 2 odc) [sX, sY] [0, 1] ∧ wr.ownsRow w3.heap.size 3 1 (.slice ea 4 ec) 4 (zV (zN [0, 1, 2, 1])))
      case atStart => exact ⟨0, rfl, rfl, HM5.out, HJ5.out, HO5.out⟩
      case round =>
        obtain ⟨i, hm, rfl, hmp, hjo, hrow⟩ := hrel
        have HM := Lib.hid hm; have HMP := Lib.hid hmp; have HJO := Lib.hid hjo; have HROW := Lib.hid hrow
        clear hm hmp hjo hrow
        by_cases hi : i < 4
        ·
          obtain ⟨d, hd⟩ : ∃ d, ([0, 1, 2, 1] : List Nat)[i]? = some d := ⟨_, List.getElem?_eq_getElem (by simpa using hi)⟩
          have hd3 : d < 8 := by
            rcases (by omega : i = 0 ∨ i = 1 ∨ i = 2 ∨ i = 3) with rfl | rfl | rfl | rfl <;> (injection hd with hd; omega)
          have htk : ([0, 1, 2, 1] : List Nat).take (i + 1) = ([0, 1, 2, 1] : List Nat).take i ++ [d] := by rw [List.take_add_one, hd]; rfl
          obtain ⟨eb, eoff, rfl, ebl, e0⟩ := (own_cellsV HROW.out).at_ (show (zV (zN [0, 1, 2, 1]))[i]? = some (.int .i64 (d : Int)) by unfold zV zN; rw [List.getElem?_map, List.getElem?_map, hd]; rfl)
          have hid : decide (((i : Nat) : Int) < 4) = true := decide_eq_true (by omega)
          have hip : ((i : Nat) : Int) < 4 := by omega
          have hip0 : (0 : Int) ≤ ((i : Nat) : Int) := by omega
          have HCM := Lib.hid (show cntS (fun k => (tkM (([0, 1, 2, 1] : List Nat).take i) k).isSome) 8 < maxLen by have := cntS_le (fun y => (tkM (([0, 1, 2, 1] : List Nat).take i) y).isSome) 8; unfold maxLen; omega)
          have HCN := Lib.hid (cnt_bM (m := tkM (([0, 1, 2, 1] : List Nat).take i)) (b := true) hd3)
          have HKEY := Lib.hid (keyI d (by omega)); have HTK := Lib.hid htk; have HI := Lib.hid hi
          clear hi hd hd3 htk
          go_wp2_with (at_mapUpdate; refine wpList_msetn rfl (.tmp 47) (.tmp 48) (.const (.bool true)) 106 rfl 4 (Maps.int_keyed Tryz.underlying3) Tryz.underlying106 rfl HMP.out HCM.out _ (.bool true) _ rfl rfl HKEY.out _ HCN.out ?_)
          intro w5 hs5 hg5
          have HMP5 := Lib.hid (bmap_step hs5); have HJO5 := Lib.hid (HJO.out.map HMP.out hg5 HAM.out); have HROW5 := Lib.hid (own_kb HROW.out (MapAt.kb HMP.out hg5 (fun _ => false)) rfl)
          rw [← HTK.out] at HMP5
          clear hs5 hg5 ebl e0
          go_wp2_with fail
          go_roundg (4 - (i + 1))
          case measure => have := HM.out; have := HI.out; omega
          case rel => exact ⟨i + 1, by have := HM.out; have := HI.out; omega, by go_num, HMP5.out, HJO5.out, HROW5.out⟩
        · have hi4 : i = 4 := by have := HM.out; omega
          subst hi4
          obtain ⟨w7, rfl⟩ : ∃ w7, w7 = wr := ⟨_, rfl⟩
          have HMP7 : Hid (BMap w7 am (tkM [0, 1, 2, 1])) := Lib.hid HMP.out
          clear hi HMP HM HROW HJ5 HM5 HO5 HM2 HJ3
          have HTT := Lib.hid ((HT.out.kb HKS.out.kb rfl rfl).below HJO.out.1)
          have HT7 := Lib.hid (HT1.out.below HJO.out.1 HT1.out.lt)
          have c0 : w7.cell? ⟨g + 1, 0, none⟩ = some (.slice ta 2 tac) := HT7.out.cell 0
          have cl := HT7.out.lt
          go_wp2_with fail
          clear c0 cl
          go_loopg [12, 53] 2 (fun mm v x wr' => ∃ (i : Nat) (ya : Option Addr) (yc : Nat), mm + i = 2 ∧ x = .int .i64 (i : Int) ∧ v = .slice ya i yc ∧ wr'.ownsRow w7.heap.size 3 1 (.slice ya i yc) i (zV (zN ([1, 3].take i))) ∧ ((i < 2 ∧ Below w7.heap.size w7 wr') ∨ (i = 2 ∧ ∃ u v, JO w1 wr' gb u v [sX, sY, sZ] [0, 1, 3])))
          case atStart => exact ⟨0, none, 0, rfl, rfl, rfl, World.ownsRow_nil _ _ _ _, .inl ⟨by omega, Below.refl _ _⟩⟩
          case round =>
            obtain ⟨i, ya, yc, hm, rfl, rfl, ho, hst⟩ := hrel
            rcases hst with ⟨hi2, hb⟩ | ⟨hi2, u, v, hj⟩
            · have HJ8 := Lib.hid (HJO.out.below hb)
              have HR8 := Lib.hid (HR1.out.below HJ8.out.1 HR1.out.lt); have HT8 := Lib.hid (HT1.out.below HJ8.out.1 HT1.out.lt); have HRL8 := Lib.hid (HRL.out.below HJ8.out.1)
              have HRR8 := Lib.hid ((HR.out.kb HKS.out.kb rfl rfl).below HJ8.out.1); have HTT8 := Lib.hid ((HT.out.kb HKS.out.kb rfl rfl).below HJ8.out.1)
              have HB8 := Lib.hid hb; have HO8 := Lib.hid ho
              clear hb ho
              obtain ⟨zb, zoff, zc, x2, xl, zbl, z0, z1, z2⟩ := HRL8.out.sizes
              obtain ⟨ab, aoff, hae, abl, a0, a1⟩ := cells_two (x := .string sY) (y := .string sZ) HTT8.out.ac
              obtain ⟨db, doff, hde, dbl, d0, d1⟩ := cells_two (x := .int .i64 2) (y := .int .i64 1) HTT8.out.dc.c
              obtain ⟨fb, foff, hfe, fbl, f0, f1⟩ := cells_two (x := .int .i64 0) (y := .int .i64 1) HRR8.out.dc.c
              have g0 := HR8.out.cell 0
              have g1 := HR8.out.cell 1
              have gl := HR8.out.lt
              have h1 := HT8.out.cell 1
              have hl := HT8.out.lt
              subst hae hde hfe
              have HIX := Lib.hid (join_ix wr ra rac sY 1 ix_Y HRR8.out.ac); have HIZ := Lib.hid (join_ix wr ra rac sZ (-1) ix_Z HRR8.out.ac); have HHAS := Lib.hid (join_has wr (some ⟨fb, foff, none⟩) rdc HRR8.out.dc.c)
              have HSZ := Lib.hid HB8.out.size
              rcases (by omega : i = 0 ∨ i = 1) with rfl | rfl
              ·
                go_wp2_with fail
                refine HIX.out.mono ?_
                rintro e w9 ⟨rfl, rfl⟩
                go_wp2_with fail
                go_quiet (fail)
                go_wp2_with (at_builtin; refine wpList_append_src rfl (.tmp 89) (.tmp 95) 45 rfl w7.heap.size 3 j0 (.int .i64 0) 1 8 Tryz.underlying45 hj0 yz0 yz1 yz2 rfl (by decide) (.slice ya 0 yc) 0 _ rfl (HO8.out.alloc _) (some ⟨wr.heap.size, 0, none⟩) 1 1 [.int .i64 1] rfl rfl (Cells.lit wr _ _) (by simp [Value.oneCell']) (by decide) (by decide) (Nat.le_trans HSZ.out (by simp)) ?_)
                intro v9 w9 hown hg9 _
                obtain ⟨ya9, yc9, rfl⟩ := own_shape hown
                have HW9 := Lib.hid (And.intro hown (((HB8.out.trans ((bdN' wr _).mono HB8.out.size)).alloc HB8.out.size (.cells #[.int .i64 1] 3)).grown hg9 (Nat.le_trans HB8.out.size (by simp)) (fun j hj => (HO8.out.lt j hj).1)))
                clear hown hg9 x2 xl zbl z0 z1 z2 abl a0 a1 dbl d0 d1 fbl f0 f1 g0 g1 gl h1 hl
                go_wp2_with fail
                go_roundg 1
                case measure => omega
                case rel => exact ⟨1, ya9, yc9, rfl, rfl, rfl, HW9.out.1, .inl ⟨by omega, HW9.out.2⟩⟩
              · go_wp2_with fail
                refine HIZ.out.mono ?_
                rintro e w9 ⟨rfl, rfl⟩
                go_wp2_with fail
                refine HHAS.out.mono ?_
                rintro e w9 ⟨rfl, rfl⟩
                have HM8 : Hid (BMap wr am (tkM [0, 1, 2, 1])) := Lib.hid (MapAt.below HMP7.out HB8.out)
                have HFR := Lib.hid (free_ok wr B p q qn cb xb S HRL8.out am [0, 1, 2, 1] (fun d => by simp; omega) HM8.out)
                have HCM := Lib.hid (show cntS (fun k => (tkM [0, 1, 2, 1] k).isSome) 8 < maxLen by have := cntS_le (fun y => (tkM [0, 1, 2, 1] y).isSome) 8; unfold maxLen; omega)
                have HCN := Lib.hid (cnt_bM (m := tkM [0, 1, 2, 1]) (k := 3) (b := true) (by decide))
                have HKEY := Lib.hid (keyI 3 (by omega))
                go_wp2_with fail
                refine HFR.out.mono ?_
                rintro e w9 ⟨rfl, rfl⟩
                clear x2 xl zbl z0 z1 z2 abl a0 a1 dbl d0 d1 fbl f0 f1 g0 g1 gl h1 hl
                go_wp2_with (at_mapUpdate; refine wpList_msetn rfl (.tmp 118) (.tmp 119) (.const (.bool true)) 106 rfl 4 (Maps.int_keyed Tryz.underlying3) Tryz.underlying106 rfl HM8.out HCM.out _ (.bool true) _ rfl rfl HKEY.out _ HCN.out ?_)
                intro w10 hs10 hg10
                have HJ10 := Lib.hid (HJ8.out.map HM8.out hg10 HAM.out); have HO10 := Lib.hid (own_kb HO8.out (MapAt.kb HM8.out hg10 (fun _ => false)) rfl); have HSZ10 := Lib.hid (Nat.le_trans HSZ.out hg10.size)
                clear hs10 hg10
                go_wp2_with (at_builtin; refine wpList_append_src rfl (.tmp 120) (.tmp 122) 45 rfl w7.heap.size 3 j0 (.int .i64 0) 1 8 Tryz.underlying45 hj0 yz0 yz1 yz2 rfl (by decide) (.slice ya 1 yc) 1 _ rfl (HO10.out.alloc _) (some ⟨w10.heap.size, 0, none⟩) 1 1 [.int .i64 3] rfl rfl (Cells.lit w10 _ _) (by simp [Value.oneCell']) (by decide) (by decide) (Nat.le_trans HSZ10.out (by simp)) ?_)
                intro v12 w12 hown hg12 _
                obtain ⟨yb, ycb, rfl⟩ := own_shape hown
                have hb12 : Below w7.heap.size w10 w12 := ((Below.refl w7.heap.size w10).alloc HSZ10.out _).grown hg12 (Nat.le_trans HSZ10.out (by simp)) (fun j hj => (HO10.out.lt j hj).1)
                have HJ12 := Lib.hid (HJO.out.low HJ10.out hb12); have HO12 := Lib.hid hown
                clear hown hg12 hb12
                have e0 := HJ12.out.2.1.cell 0
                have el := HJ12.out.2.1.lt
                go_upto_region 27 with (fail)
                obtain ⟨k0, hk0, kz0, kz1, kz2⟩ := info_parts str_info
                go_wp2_with (at_builtin; refine wpList_append_src rfl (.tmp 125) (.tmp 127) 46 rfl w1.heap.size 9 k0 (.string ByteArray.empty) 1 16 Tryz.underlying46 hk0 kz0 kz1 kz2 rfl (by decide) (.slice oa 2 oac) 2 _ rfl (HJ12.out.2.2.1.alloc _) (some ⟨w12.heap.size, 0, none⟩) 1 1 [.string sZ] rfl rfl (Cells.lit w12 _ _) (by simp [Value.oneCell']) (by decide) (by decide) (Nat.le_trans HJ12.out.1.size (by simp)) ?_)
                intro v13 w13 hown13 hg13 _
                obtain ⟨ua, uc, rfl⟩ := own_shape hown13
                have hk13 : Kb (fun t => t == 9) w12 w13 := ((Kp.of_below (T := fun t => t == 9) (B := 0) ((Below.refl w12.heap.size w12).alloc (Nat.le_refl _) _)).kb).trans (own_grown_kb (HJ12.out.2.2.1.alloc _) hg13)
                have hg := hk13 _ _ _ HJ12.out.2.1 rfl
                have hb13 : Below w1.heap.size w1 w13 := (HJ12.out.1.alloc HJ12.out.1.size _).grown hg13 (Nat.le_trans HJ12.out.1.size (by simp)) (fun j hj => (HJ12.out.2.2.1.lt j hj).1)
                have e0 := hg.cell 0
                have e1 := hg.frozen 0
                have el := hg.lt
                have hset := Kp.set (T := TRl) hg rfl (Nat.zero_le _) 0 (.slice ua 3 uc)
                have HG14 := Lib.hid (hg.set_ 0 (.slice ua 3 uc)); have HB14 := Lib.hid (hb13.setCell (p := ⟨gb, 0, none⟩) HJ12.out.2.2.2.2 (.slice ua 3 uc))
                have HU14 := Lib.hid (own_kb hown13 hset.kb rfl); have HV14 := Lib.hid (own_kb (own_kb HJ12.out.2.2.2.1 hk13 rfl) hset.kb rfl); have HO14 := Lib.hid (own_kb (own_kb HO12.out hk13 rfl) hset.kb rfl)
                obtain ⟨w14, hw14⟩ : ∃ w14, w14 = w13.setCell ⟨gb, 0, none⟩ (.slice ua 3 uc) := ⟨_, rfl⟩
                rw [← hw14] at HG14 HB14 HU14 HV14 HO14
                clear hown13 hg13 hk13 hg hb13 hset
                go_upto_region 28 with (fail)
                rw [← hw14]
                clear hw14 e0 e1 el
                have e0 := HG14.out.cell 1
                have el := HG14.out.lt
                go_wp2_with (at_builtin; refine wpList_append_src rfl (.tmp 131) (.tmp 133) 45 rfl w1.heap.size 3 j0 (.int .i64 0) 1 8 Tryz.underlying45 hj0 yz0 yz1 yz2 rfl (by decide) (.slice oda 2 odc) 2 _ rfl (HV14.out.alloc _) (some ⟨w14.heap.size, 0, none⟩) 1 1 [.int .i64 3] rfl rfl (Cells.lit w14 _ _) (by simp [Value.oneCell']) (by decide) (by decide) (Nat.le_trans HB14.out.size (by simp)) ?_)
                intro v15 w15 hown15 hg15 _
                obtain ⟨va, vc, rfl⟩ := own_shape hown15
                have hal : Below w14.heap.size w14 (w14.alloc (.cells #[.int .i64 3] 3)) := (Below.refl w14.heap.size w14).alloc (Nat.le_refl _) _
                have hk15 : Kb (fun t => t == 3) w14 w15 := ((Kp.of_below (T := fun t => t == 3) (B := 0) hal).kb).trans (own_grown_kb (HV14.out.alloc _) hg15)
                have hg := hk15 _ _ _ HG14.out rfl
                have hb15 : Below w1.heap.size w1 w15 := (HB14.out.alloc HB14.out.size _).grown hg15 (Nat.le_trans HB14.out.size (by simp)) (fun j hj => (HV14.out.lt j hj).1)
                have ho15 : w15.ownsRow w7.heap.size 3 1 (.slice yb 2 ycb) 2 (zV (zN [1, 3])) := (own_below HO14.out hal).kept hg15 (.inr fun e => by
                  cases hh : (Value.slice yb 2 ycb).ownBlock with
                  | none =>
                    obtain ⟨yg, yq, hyg⟩ := own_some HO14.out (by decide)
                    rw [hyg] at hh; cases hh
                  | some k =>
                    have h1 := (HO14.out.lt k hh).1
                    have h2 := (HJO.out.2.2.2.1.lt k (e ▸ hh)).2
                    omega)
                have e0 := hg.cell 1
                have e1 := hg.frozen 1
                have el := hg.lt
                have hset := Kp.set (T := TRl) hg rfl (Nat.zero_le _) 1 (.slice va 3 vc)
                have HW16 := Lib.hid (And.intro (hb15.setCell (p := ⟨gb, 1, none⟩) HJO.out.2.2.2.2 (.slice va 3 vc)) (And.intro (hg.set_ 1 (.slice va 3 vc)) (And.intro (own_kb (own_kb HU14.out hk15 rfl) hset.kb rfl) (And.intro (own_kb hown15 hset.kb rfl) (own_kb ho15 hset.kb rfl)))))
                obtain ⟨w16, hw16⟩ : ∃ w16, w16 = w15.setCell ⟨gb, 1, none⟩ (.slice va 3 vc) := ⟨_, rfl⟩
                rw [← hw16] at HW16
                clear hown15 hg15 hk15 hg hb15 hset ho15 hal
                go_upto_region 29 with (fail)
                rw [← hw16]
                clear hw16 e0 e1 el
                go_wp2_with fail
                go_roundg 0
                case measure => omega
                case rel => exact ⟨2, yb, ycb, rfl, rfl, rfl, HW16.out.2.2.2.2, .inr ⟨rfl, .slice ua 3 uc, .slice va 3 vc, HW16.out.1, HW16.out.2.1, HW16.out.2.2.1, HW16.out.2.2.2.1, HJO.out.2.2.2.2⟩⟩
            · subst hi2
              obtain ⟨ua, uc, rfl⟩ := own_shape hj.2.2.1
              obtain ⟨va, vc, rfl⟩ := own_shape hj.2.2.2.1
              have HJ8 := Lib.hid hj; have HO8 := Lib.hid ho
              clear hj ho hm
              have HR8 := Lib.hid (HR1.out.below HJ8.out.1 HR1.out.lt); have HT8 := Lib.hid (HT1.out.below HJ8.out.1 HT1.out.lt); have HRL8 := Lib.hid (HRL.out.below HJ8.out.1); have HY8 := Lib.hid (HY1.out.below HJ8.out.1 HY1.out.lt)
              have HTT8 := Lib.hid ((HT.out.kb HKS.out.kb rfl rfl).below HJ8.out.1)
              have g0 : wr.cell? ⟨gb, 0, none⟩ = some (.slice ua 3 uc) := HJ8.out.2.1.cell 0
              have gl := HJ8.out.2.1.lt
              have h1 := HT8.out.cell 1
              have h2 := HT8.out.cell 2
              have hl := HT8.out.lt
              have HTN := Lib.hid (turn_ok wr B p q qn cb xb S HRL8.out kt HTT8.out.is HTT8.out.dep tda ya tdc yc HTT8.out.dc ⟨own_cellsV HO8.out, own_tbV HO8.out⟩ (by have := HRM.out; omega))
              go_wp2_with fail
              refine HTN.out.mono ?_
              rintro e w9 ⟨S1, k1, rfl, hrl9, hkp9, hgo9⟩
              clear g0 gl h1 h2 hl HTN
              have HRL9 := Lib.hid hrl9; have HGO9 := Lib.hid hgo9; have HKP9 := Lib.hid hkp9
              have HG9 := Lib.hid (hkp9.blk HJ8.out.2.1 rfl); have HR9 := Lib.hid (hkp9.blk HR8.out rfl); have HY9 := Lib.hid (hkp9.blk HY8.out rfl)
              have HKR : Hid (Den S1 kr (fun ρ => den S.l ρ kr)) := Lib.hid (Den.ext ⟨HR.out.is, fun _ => rfl⟩ hgo9.ext H.out.cd.sto.wf hgo9.wf)
              clear hrl9 hgo9 hkp9
              obtain ⟨hcd, hxB, hsw, za8, zc8, ma8, swp8, hsp, hrow, hle, hask⟩ := HRL9.out
              have c1 : w9.cell? ⟨xb, 1, none⟩ = some (.pointer (some ⟨qn, 0, none⟩)) := hsp.cell 1
              have xl := hsp.lt
              have r2 : w9.cell? ⟨g, 2, none⟩ = some (.int .i64 (kr : Int)) := HR9.out.cell 2
              have rl := HR9.out.lt
              have g2 : w9.cell? ⟨gb, 2, none⟩ = some (.int .i64 0) := HG9.out.cell 2
              have gf := HG9.out.frozen 2
              have gl := HG9.out.lt
              have hroom2 : NP.cnt S1.l + 63 < S1.budget + 1 := by have h1 := HRM.out; have h2 := HGO9.out.cnt; have h3 := HGO9.out.ext.budget; omega
              have hpow : 2 ^ rk (VD [0, 1, 3]) 8 0 ≤ 63 + 1 := by
                have h1 : rk (VD [0, 1, 3]) 8 0 ≤ 2 * 3 := rk_VD (by decide)
                exact Nat.pow_le_pow_right (by decide) (by omega : rk (VD [0, 1, 3]) 8 0 ≤ 6)
              have hand := cand_ok w9.drew B p q qn cb S1 (hcd.below (Below.refl _ _).drew) kr k1 (fun ρ => den S.l ρ kr) (fun ρ => den S.l (fun i => ρ (tnB i)) kt) HKR.out HGO9.out.den (VD [0, 1, 3]) (HR.out.dep.mono VD_01) ((turn_dep HT.out.dep).mono VD_13) 63 hpow hroom2
              have HAND := Lib.hid hand
              have HQU := Lib.hid (qops_ok w9.drew qn p q (hcd.qu.below (Below.refl w9.heap.size w9).drew hcd.qu.lt))
              clear hcd hxB hsw hsp hrow hle hask hroom2 hpow hand
              go_wp2_with fail
              go_cut [20] (fun x wx => ∃ (S2 : NS) (k2 : Nat), x = .int .i64 0 ∧ Rl wx B p q qn cb xb S2 ∧ Kb TG w9 wx ∧ Ks TX' B w wx ∧ GotOk S1 (fun ρ => den S.l ρ kr && den S.l (fun i => ρ (tnB i)) kt) 63 S2 k2 ∧ Blk wx gb 48 #[.slice ua 3 uc, .slice va 3 vc, .int .i64 (k2 : Int)] ∧ Blk wx (g + 1 + 1) 48 #[.slice none 0 0, .slice none 0 0, .int .i64 0])
              case first =>
                go_region_law (first | (go_simp; go_at_call 20; (with_reducible refine HQU.out.mono ?_); rintro e w10 ⟨rfl, rfl⟩) | (go_simp; go_at_call 40; (with_reducible refine HAND.out.mono ?_); rintro e w10 ⟨S2, k2, rfl, hcd2, hkp2, hgo2⟩; have hx10 : Blk w10 gb 48 #[.slice ua 3 uc, .slice va 3 vc, .int .i64 0] := hkp2.blk HG9.out.drew_ rfl; have q2 : w10.cell? ⟨gb, 2, none⟩ = some (.int .i64 0) := hx10.cell 2; have qf := hx10.frozen 2; have ql := hx10.lt; clear hx10))
                all_goals
                  have hkp92 : Kp TO B w9 w10 := (Kp.of_below (Below.refl w9.heap.size w9).drew).trans hkp2
                  have HRL10 := Lib.hid (HRL9.out.got hcd2 hkp92 hgo2); have HG10 := Lib.hid (hkp92.blk HG9.out rfl); have HY10 := Lib.hid (hkp92.blk HY9.out rfl); have HGO10 := Lib.hid hgo2; have HKP10 := Lib.hid hkp92
                  clear hcd2 hkp2 hgo2 hkp92 q2 qf ql c1 xl r2 rl g2 gf gl
                  go_wp2_with fail
                  go_meet
                  case rel =>
                    have hset := Kp.set (T := TRl) HG10.out rfl (Nat.zero_le _) 2 (.int .i64 (k2 : Int))
                    have hBw : w.heap.size ≤ gb := Nat.le_trans HKS.out.low.size HJ8.out.2.2.2.2
                    have hgg : g + 1 + 1 ≠ gb := by have := HY1.out.lt; have := HJ8.out.2.2.2.2; omega
                    exact ⟨S2, k2, rfl, HRL10.out.kpr hset, HKP10.out.kb.tg.trans (hset.kb.mono fun t ht => by
                      show (TO t || t == 48) = true
                      rw [Bool.or_eq_true]; exact .inr ht), ((((HKS.out.trans (Ks.below HJ8.out.1 HRL.out.cd.low)).trans (HKP9.out.kx HRL8.out.cd.low)).trans (HKP10.out.kx HRL9.out.cd.low)).new H.out.cd.low hBw _), HGO10.out, HG10.out.set_ 2 _, HY10.out.far hgg _⟩
              case rest =>
                obtain ⟨S2, k2, rfl, hrl, hkb, hks, hgo, hg, hy⟩ := hcut
                have HRL10 := Lib.hid hrl; have HKB10 := Lib.hid hkb; have HKS10 := Lib.hid hks; have HGO10 := Lib.hid hgo; have HG10 := Lib.hid hg; have HY10 := Lib.hid hy
                clear hrl hkb hks hgo hg hy c1 xl r2 rl g2 gf gl
                have d0 := HG10.out.cell 0
                have d1 := HG10.out.cell 1
                have d2 := HG10.out.cell 2
                have e0 := HY10.out.cell 0
                have e1 := HY10.out.cell 1
                have e2 := HY10.out.cell 2
                have f0 := HY10.out.frozen 0
                have f1 := HY10.out.frozen 1
                have f2 := HY10.out.frozen 2
                have el := HY10.out.lt
                have gl := HG10.out.lt
                go_wp2_with fail
                refine bodyPost_ret (v := .tuple #[rdV ⟨ua, uc, va, vc, 3, [sX, sY, sZ], [0, 1, 3], k2⟩, .int .i64 0]) ?_ rfl ?_
                · rw [results_cell_tmp rfl]; go_simp
                · have h0 := HY10.out
                  have h1 := h0.set_ 0 (.slice ua 3 uc)
                  have h2 := h1.set_ 1 (.slice va 3 vc)
                  have hk := ((Kp.set (T := TRl) h0 rfl (Nat.zero_le _) 0 (.slice ua 3 uc)).trans (Kp.set h1 rfl (Nat.zero_le _) 1 (.slice va 3 vc))).trans (Kp.set h2 rfl (Nat.zero_le _) 2 (.int .i64 (k2 : Int)))
                  have hir : w.heap.size ≤ g + 1 + 1 := by rw [HG.out]; omega
                  have hlow := H.out.cd.low
                  have hks := ((HKS10.out.new hlow (p := ⟨g + 1 + 1, 0, none⟩) hir (.slice ua 3 uc)).new hlow (p := ⟨g + 1 + 1, 1, none⟩) hir (.slice va 3 vc)).new hlow (p := ⟨g + 1 + 1, 2, none⟩) hir (.int .i64 (k2 : Int))
                  have hden : (fun ρ => den S2.l ρ k2) = joinG S kr kt := funext HGO10.out.den.says
                  have hs := own_kb (own_kb (own_kb HJ8.out.2.2.1 HKP9.out.kb rfl) HKB10.out rfl) hk.kb rfl
                  have hi := own_kb (own_kb (own_kb HJ8.out.2.2.2.1 HKP9.out.kb rfl) HKB10.out rfl) hk.kb rfl
                  exact ⟨S2, ⟨ua, uc, va, vc, 3, [sX, sY, sZ], [0, 1, 3], k2⟩, rfl, rfl, rfl, ⟨rfl, rfl, own_cellsV hs, own_tbV hs, ⟨own_cellsV hi, own_tbV hi⟩, nm_xyz, (show ∀ d ∈ ([0, 1, 3] : List Nat), d < 4 by decide), (show ([0, 1, 3] : List Nat).Nodup by decide), HGO10.out.den.is, by
                    show Dep (VD [0, 1, 3]) (fun ρ => den S2.l ρ k2)
                    rw [hden]
                    exact (HR.out.dep.mono VD_01).and ((turn_dep HT.out.dep).mono VD_13)⟩, HRL10.out.kpr hk, hks, (HGO9.out.trans HGO10.out)⟩
end Go.Proofs.YtobhjkfkdkiigaaGreatDoor

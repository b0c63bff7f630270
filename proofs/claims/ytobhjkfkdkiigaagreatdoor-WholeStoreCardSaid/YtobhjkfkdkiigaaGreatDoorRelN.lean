/- Layer 9: what Keep asks for: the domains that go. 
 Layer 9: Keep, of the law's join alone. -/
import Derived.Test.YtobhjkfkdkiigaaGreatDoorRelH
import Derived.Test.YtobhjkfkdkiigaaGreatDoorTupQ
import Derived.Test.YtobhjkfkdkiigaaGreatDoorRelL
namespace Go.Proofs.YtobhjkfkdkiigaaGreatDoor
open Go.RowKit HP NP LY Go.Sort
theorem keep_has (w : World) (a : Option Addr) (c : Nat) (x : Int) (hc : Cells w a (zV (zN [3, 0]))) :
    Calls Tryz.prog 37 #[.slice a 2 c, .int .i64 x] w fun e w' => e = .returned (.bool ([3, 0].contains x)) ∧ w = w' := by
  obtain ⟨b, off, rfl, _, hh⟩ := hc (by simp [zV, zN])
  refine (Tryz.slices_Contains_int b off 2 c [3, 0] x w (by decide) (by omega) (getDI hh)).mono ?_
  rintro e w' ⟨rfl, rfl⟩
  exact ⟨by rfl, rfl⟩
set_option maxRecDepth 100000 in
theorem del_ok (w : World) (gb dc : Nat) (da : Option Addr) (u k : Value) (x : Int) (hb : Blk w gb 48 #[u, .slice da 2 dc, k]) (hd : Cells w da (zV (zN [3, 0]))) :
    Calls Tryz.prog 44 #[.int .i64 x, .pointer (some ⟨gb, 0, none⟩)] w fun e w' => e = .returned (.bool ([3, 0].contains x)) ∧ w = w' := by
  obtain ⟨bb, hbb⟩ : ∃ bb, bb = ([3, 0] : List Int).contains x := ⟨_, rfl⟩
  have HC := Lib.hid (keep_has w da dc x hd)
  rw [← hbb] at HC ⊢
  clear hbb
  have c1 : w.cell? ⟨gb, 1, none⟩ = some (.slice da 2 dc) := hb.cell 1
  have cl := hb.lt
  clear hb hd
  go_enter Tryz.func44, Tryz.ntmps44
  go_wp2_with fail
  refine HC.out.mono ?_
  rintro e w1 ⟨rfl, rfl⟩
  go_wp2_with fail
  go_ret
  exact ⟨rfl, rfl⟩
set_option maxRecDepth 100000 in
/-- r.Doms without those that are kept -/
theorem gone_ok (w : World) (B blk cap : Nat) (gb dc : Nat) (da : Option Addr) (u k : Value) (hown : w.ownsRow B 3 1 (.slice (some ⟨blk, 0, none⟩) 3 cap) 3 (zV (zN [0, 1, 3]))) (hb : Blk w gb 48 #[u, .slice da 2 dc, k]) (hd : CellsT w da (zV (zN [3, 0]))) (hlow : ∀ b off s, da = some ⟨b, off, s⟩ → b < B) (hB : B ≤ w.heap.size) :
    Calls Tryz.prog 43 #[.slice (some ⟨blk, 0, none⟩) 3 cap, .func (.func 44) #[] #[.pointer (some ⟨gb, 0, none⟩)]] w fun e w' => e = .returned (.slice (some ⟨blk, 0, none⟩) 1 cap) ∧ CellsT w' (some ⟨blk, 0, none⟩) (zV [1]) ∧ Below B w w' ∧ w.grownBy w' (some blk) := by
  have hne : some gb ≠ (Value.slice (some ⟨blk, 0, none⟩) 3 cap).ownBlock := own_ne_blk hown hb (by decide)
  rcases hown.2 with ⟨h0, _⟩ | ⟨gb', cap', cur, hv, hbase, hgb, r1, r2, r3, r4⟩
  · cases h0
  injection hv with hv1 _ hv3
  injection hv1 with hv1
  injection hv1 with hv1 _ _
  subst hv1 hv3
  have hgr : ∀ W, (∀ i, i < w.heap.size → i ≠ blk → W.heap[i]? = w.heap[i]?) → w.heap.size ≤ W.heap.size → ∀ x : Int, Calls Tryz.prog 44 #[.int .i64 x, .pointer (some ⟨gb, 0, none⟩)] W fun e w' => e = .returned (.bool ([3, 0].contains x)) ∧ W = w' := fun W hW hsz x => by
    have hgne : gb ≠ blk := fun e => hne (by rw [e]; rfl)
    refine del_ok W gb dc da u k x ((hW gb hb.lt hgne).trans hb) ?_
    obtain ⟨b, off, rfl, hl, hh⟩ := hd.c (by simp [zV, zN])
    have hlb := hlow b off none rfl
    exact fun _ => ⟨b, off, rfl, Nat.lt_of_lt_of_le hl hsz, fun i v hv => by
      rw [← hh i v hv]
      simp only [World.cell?]
      rw [hW b hl (by omega)]⟩
  have hHo : Holds (Value.int .i64) w blk 0 #[0, 1, 3] := holds_enc (ss := [0, 1, 3]) hgb (by rw [Nat.mul_one] at r4; simpa [zV, zN] using r4)
  refine (Tryz.slices_DeleteFunc (Value.int .i64) (fun _ => rfl) (fun x => [3, 0].contains x) 44 #[.pointer (some ⟨gb, 0, none⟩)] (fun args w => rfl) 0 (fun w => Tryz.zeroValue3 w) blk 0 cap #[0, 1, 3] w (fun W x hW => ?_) (fun n os dk x hs => ?_) hHo (by decide) r1).mono ?_
  · exact (hgr W (fun i hi _ => hW.block i hi) hW.size x).mono fun e w' h => ⟨h.1, 0, h.2.symm⟩
  · refine (hgr _ (fun i hi hn => ?_) ?_ x).mono fun e w' h => ⟨h.1, 0, h.2.symm⟩
    · exact (grown_enc (enc := Value.int .i64) (w := w) (g := blk) (n := n) (os := os) dk).block i hi (fun e => hn (by injection e))
    · exact (grown_enc (enc := Value.int .i64) (w := w) (g := blk) (n := n) (os := os) dk).size
  · rintro e w' ⟨rfl, q, rfl⟩
    have hg := grown_enc (enc := Value.int .i64) (w := w) (g := blk) (n := q) (os := #[]) #[1, 0, 0]
    have hh := heap_enc (enc := Value.int .i64) (n := q) (os := #[]) #[1, 0, 0] hgb
    rw [grow_empty] at hg hh
    have hbW : Blk (putRow (Value.int .i64) (Sort.ahead w q) blk 0 #[1, 0, 0]) blk 3 (putCells (Value.int .i64) 0 #[1, 0, 0] cur) := hh
    refine ⟨rfl, ⟨fun _ => ⟨blk, 0, rfl, hbW.lt, fun i v hv => ?_⟩, tb_some ⟨_, hbW⟩⟩, (Below.refl _ _).grown hg hB (fun j hj => by injection hj with hj; omega), hg⟩
    match i, hv with
    | 0, hv =>
      injection hv with hv
      subst hv
      refine (hbW.cell 0).trans ?_
      have h3 : 0 < cur.size := by rw [r3]; omega
      simp [putCells, h3]
    | i + 1, hv => simp [zV] at hv
end Go.Proofs.YtobhjkfkdkiigaaGreatDoor

namespace Go.Proofs.YtobhjkfkdkiigaaGreatDoor
open Go.RowKit HP NP LY
def KeepPost (B p q qn cb xb : Nat) (S : NS) (n : Nat) (w : World) (e : Ending) (w' : World) : Prop :=
  ∃ (S' : NS) (a : Option Addr) (c : Nat) (d : Option Addr) (dc k : Nat) (g : (Nat → Bool) → Bool), e = .returned (.tuple #[.agg #[.slice a 2 c, .slice d 2 dc, .int .i64 (k : Int)], .int .i64 0]) ∧ Rl w' B p q qn cb xb S' ∧ Ks TX' B w w' ∧ GotOk S g n S' k
theorem keep_ix (w : World) (a : Option Addr) (c : Nat) (x : ByteArray) (i : Nat) (hx : Lib.idxOfS [sX, sY, sZ] x = (i : Int)) (hc : Cells w a ([sX, sY, sZ].map Value.string)) :
    Calls Tryz.prog 36 #[.slice a 3 c, .string x] w fun e w' => e = .returned (.int .i64 (i : Int)) ∧ w = w' := by
  obtain ⟨b, off, rfl, _, hh⟩ := hc (by simp)
  refine (Tryz.slices_Index_string b off 3 c [sX, sY, sZ] x w (by decide) (by omega) (getDS hh)).mono ?_
  rintro e w' ⟨rfl, rfl⟩
  exact ⟨by rw [← hx]; rfl, rfl⟩
theorem own_low_lt {w : World} {B e size n cap : Nat} {ad : Addr} {xs : List Value} (h : w.ownsRow B e size (.slice (some ad) n cap) n xs) : ad.block < w.heap.size := by
  rcases h.2 with ⟨h1, _⟩ | ⟨g, cap', cur, h1, _, hg, _⟩
  · cases h1
  · injection h1 with h1 _ _
    injection h1 with h1
    subst h1
    exact (Array.getElem?_eq_some_iff.1 hg).1
theorem rk_013 : rk (VD [0, 1, 3]) 8 0 = 6 := by decide
theorem nm_zx : ([sZ, sX] : List ByteArray).Nodup := by decide
theorem keep_at (i : Nat) (hi : i < 2) : ∃ (a : ByteArray) (k d : Nat), ([sZ, sX] : List ByteArray)[i]? = some a ∧ Lib.idxOfS [sX, sY, sZ] a = (k : Int) ∧ k < 3 ∧ ([0, 1, 3] : List Nat)[k]? = some d ∧ ([3, 0] : List Nat).take (i + 1) = ([3, 0] : List Nat).take i ++ [d] ∧ a.size = 1 := by
  rcases (by omega : i = 0 ∨ i = 1) with rfl | rfl
  · exact ⟨sZ, 2, 3, rfl, by decide, by decide, rfl, rfl, rfl⟩
  · exact ⟨sX, 0, 0, rfl, by decide, by decide, rfl, rfl, rfl⟩
set_option maxRecDepth 100000 in
set_option maxHeartbeats 6400000 in
theorem keep_ok (w : World) (B p q qn cb xb : Nat) (S : NS) (h : Rl w B p q qn cb xb S) (ra rda : Option Addr) (rac rdc kr : Nat) (hr : RelOk w S ⟨ra, rac, rda, rdc, 3, [sX, sY, sZ], [0, 1, 3], kr⟩) (la : Option Addr) (lc : Nat) (hl : Cells w la ([sZ, sX].map Value.string)) (hlt : TB w la 9) (hroom : NP.cnt S.l + 393 ≤ S.budget) :
    Calls Tryz.prog 13 #[.pointer (some ⟨xb, 0, none⟩), rdV ⟨ra, rac, rda, rdc, 3, [sX, sY, sZ], [0, 1, 3], kr⟩, .slice la 2 lc] w (KeepPost B p q qn cb xb S 393 w) := by
  have H := Lib.hid h; have HR := Lib.hid hr; have HL := Lib.hid hl; have HLT := Lib.hid hlt; have HRM := Lib.hid hroom
  clear h hr hl hlt hroom
  go_enter Tryz.func13, Tryz.ntmps13
  go_wp2_with fail
  obtain ⟨W0, hW0⟩ : ∃ W0, W0 = (((w.alloc (.cells #[.slice ra 3 rac, .slice rda 3 rdc, .int .i64 (kr : Int)] 48)).alloc (.cells #[.slice none 0 0, .slice none 0 0, .int .i64 0] 48)).alloc (.cells #[.slice ra 3 rac, .slice rda 3 rdc, .int .i64 (kr : Int)] 48)) := ⟨_, rfl⟩
  have hb0 : Below w.heap.size w W0 := by rw [hW0]; exact (((Below.refl _ _).alloc (Nat.le_refl _) _).alloc (by simp) _).alloc (by simp; omega) _
  have hr0 : Blk W0 w.heap.size 48 #[.slice ra 3 rac, .slice rda 3 rdc, .int .i64 (kr : Int)] := by rw [hW0]; exact ((Blk.new_ _ _ _).alloc_ _).alloc_ _
  have hy0 : Blk W0 (w.heap.size + 1) 48 #[.slice none 0 0, .slice none 0 0, .int .i64 0] := by
    rw [hW0]
    refine Blk.alloc_ ?_ _
    have := Blk.new_ (w.alloc (.cells #[.slice ra 3 rac, .slice rda 3 rdc, .int .i64 (kr : Int)] 48)) 48 #[.slice none 0 0, .slice none 0 0, .int .i64 0]
    simpa using this
  have hz0 : Blk W0 (w.heap.size + 1 + 1) 48 #[.slice ra 3 rac, .slice rda 3 rdc, .int .i64 (kr : Int)] := by
    rw [hW0]
    have := Blk.new_ ((w.alloc (.cells #[.slice ra 3 rac, .slice rda 3 rdc, .int .i64 (kr : Int)] 48)).alloc (.cells #[.slice none 0 0, .slice none 0 0, .int .i64 0] 48)) 48 #[.slice ra 3 rac, .slice rda 3 rdc, .int .i64 (kr : Int)]
    simpa using this
  rw [← hW0]
  obtain ⟨g, hg⟩ : ∃ g, g = w.heap.size := ⟨_, rfl⟩
  rw [← hg] at hr0 hy0 hz0 ⊢
  have HG := Lib.hid hg
  have hmay := rmay_ok W0 B p q qn cb xb S (H.out.below hb0) (some ⟨g + 1 + 1, 0, none⟩) 1 [⟨ra, rac, rda, rdc, 3, [sX, sY, sZ], [0, 1, 3], kr⟩] (by simp) (fun _ => ⟨g + 1 + 1, 0, rfl, hz0.lt, fun i v hv => by
      rw [Nat.zero_add, hz0.cell]
      rw [← Array.getElem?_toList]; exact hv⟩) (tb_some ⟨_, hz0⟩) (fun r hr => by
      rw [List.mem_singleton] at hr; subst hr
      exact HR.out.below hb0)
  have HMAY := Lib.hid hmay
  have HB0 := Lib.hid hb0; have HR0 := Lib.hid hr0; have HY0 := Lib.hid hy0
  clear hb0 hr0 hy0 hz0 hW0 hg hmay
  refine HMAY.out.mono ?_
  rintro e w1 ⟨rfl, hrl, hks⟩
  have HRL := Lib.hid hrl; have HKS : Hid (Ks TX' B w w1) := Lib.hid ((Ks.below HB0.out H.out.cd.low).trans (hks.mono fun t ht => by
    show (TO t || t == 97) = true
    rw [Bool.or_eq_true]; exact .inr ht))
  have HR1 := Lib.hid (hks.kb _ _ _ HR0.out rfl); have HY1 := Lib.hid (hks.kb _ _ _ HY0.out rfl)
  have HL1 := Lib.hid (HL.out.kb HLT.out HKS.out.kb rfl)
  clear hrl hks HMAY HR0 HY0 HB0
  go_wp2_with fail
  refine (cloneSo_ok w1 w1.heap.size (Nat.le_refl _) la [sZ, sX] 2 lc rfl (by decide) (by decide) HL1.out).mono ?_
  rintro e w2 ⟨hb2, oa, oc, rfl, hown⟩
  have HB2 := Lib.hid hb2; have HO2 := Lib.hid hown
  clear hb2 hown
  have hmk := @run_makeMap Tryz.prog
  go_upto_region 5 with (fail)
  obtain ⟨w3, hw3⟩ : ∃ w3, w3 = (w2.alloc (.cells #[.slice oa 2 oc, .slice none 0 0, .int .i64 0] 48)).alloc (.map #[] 0) := ⟨_, rfl⟩
  obtain ⟨gb, hgb⟩ : ∃ gb, gb = w2.heap.size := ⟨_, rfl⟩
  have hb23 : Below w2.heap.size w2 w3 := by rw [hw3]; exact ((Below.refl _ _).alloc (Nat.le_refl _) _).alloc (by simp) _
  have HJ3 : Hid (JO w1 w3 gb (.slice oa 2 oc) (.slice none 0 0) [sZ, sX] []) := Lib.hid ⟨HB2.out.trans (hb23.mono HB2.out.size), by rw [hw3, hgb]; exact (Blk.new_ _ _ _).alloc_ _, own_below HO2.out hb23, World.ownsRow_nil _ _ _ _, by rw [hgb]; exact HB2.out.size⟩
  have HM3 : Hid (MapAt w3 Tryz.prog 9 (gb + 1) 0 (nameM (sdm [sZ, sX]) 0)) := Lib.hid (by
    rw [hw3, hgb, nameM_zero]
    have := MapAt.made (w2.alloc (.cells #[.slice oa 2 oc, .slice none 0 0, .int .i64 0] 48)) Tryz.prog 9
    simpa using this)
  rw [← hw3, ← hgb]
  have HGB := Lib.hid (show w1.heap.size ≤ gb by rw [hgb]; exact HB2.out.size)
  clear hw3 hgb hb23 HB2 HO2 hmk
  obtain ⟨j0, hj0, yz0, yz1, yz2⟩ := info_parts int_infoL
  go_wp2_with fail
  go_loopg [28] 2 (fun mm x wr => ∃ (i : Nat) (v : Value), mm + i = 2 ∧ x = .int .i64 (i : Int) ∧ JO w1 wr gb (.slice oa 2 oc) v [sZ, sX] (([3, 0] : List Nat).take i) ∧ MapAt wr Tryz.prog 9 (gb + 1) i (nameM (sdm [sZ, sX]) i))
  case atStart => exact ⟨0, _, rfl, rfl, HJ3.out, HM3.out⟩
  case round =>
    obtain ⟨i, v, hm, rfl, hj, hmp⟩ := hrel
    have HM := Lib.hid hm; have HJ := Lib.hid hj; have HMP := Lib.hid hmp
    clear hm hj hmp
    by_cases hi : i < 2
    ·
      obtain ⟨a, k, d, ha, hix, hk3, hd, htk, ha1⟩ := keep_at i hi
      have HR8 := Lib.hid (HR1.out.below HJ.out.1 HR1.out.lt)
      have HRR8 := Lib.hid ((HR.out.kb HKS.out.kb rfl rfl).below HJ.out.1)
      obtain ⟨sb, soff, rfl, sbl, s0⟩ := (HL1.out.below HJ.out.1).at_ (show ([sZ, sX].map Value.string)[i]? = some (.string a) by rw [List.getElem?_map, ha]; rfl)
      have HIX := Lib.hid (keep_ix wr ra rac a k hix HRR8.out.ac)
      have HKEY : Hid (keyOf Tryz.prog 9 (.string a) = some (.string a.data.toList)) := Lib.hid (WideMaps.keyOf_string_mk Tryz.underlying9 (by unfold maxLen; omega))
      have hnew := nmS_new nm_zx ha
      have hrl := run_mlook 112 4 (Maps.string_keyed Tryz.underlying9) Tryz.underlying112 (zeroB _) HMP.out _ _ HKEY.out
      have hat : atF (nameM (sdm [sZ, sX]) i) (.string a.data.toList) (.bool false) = .bool false := by unfold atF; rw [hnew]; rfl
      rw [hat] at hrl
      have HCN : Hid ((if (nameM (sdm [sZ, sX]) i (.string a.data.toList)).isSome then i else i + 1) = i + 1) := Lib.hid (by rw [hnew]; rfl)
      have him : i < maxLen := by unfold maxLen; omega
      have hid : decide (((i : Nat) : Int) < 2) = true := decide_eq_true (by omega)
      have hip : ((i : Nat) : Int) < 2 := by omega
      have hip0 : (0 : Int) ≤ ((i : Nat) : Int) := by omega
      have hkd : decide (((k : Nat) : Int) < 0) = false := decide_eq_false (by omega)
      have hkp : ((k : Nat) : Int) < 3 := by omega
      have hkp0 : (0 : Int) ≤ ((k : Nat) : Int) := by omega
      have g0 : wr.cell? ⟨g, 0, none⟩ = some (.slice ra 3 rac) := HR8.out.cell 0
      have gl := HR8.out.lt
      have HS := Lib.hid ha; have HI := Lib.hid hi; have HD := Lib.hid hd; have HTK := Lib.hid htk
      clear hnew hat ha hi hix hk3 hd htk ha1
      go_wp2_with fail
      refine HIX.out.mono ?_
      rintro e w4 ⟨rfl, rfl⟩
      go_wp2_with (at_mapUpdate; refine wpList_msetn rfl (.tmp 44) (.tmp 45) (.const (.bool true)) 112 rfl 4 (Maps.string_keyed Tryz.underlying9) Tryz.underlying112 rfl HMP.out him _ _ _ rfl rfl HKEY.out _ HCN.out ?_)
      intro w5 hm5 hg5
      have HMP5 : Hid (MapAt w5 Tryz.prog 9 (gb + 1) (i + 1) (nameM (sdm [sZ, sX]) (i + 1))) := Lib.hid (by rw [← nameM_set (sdm_at HS.out)]; exact hm5)
      have hle : w1.heap.size ≤ gb + 1 := by have := HGB.out; omega
      have HJ5 : Hid (JO w1 w5 gb (.slice oa 2 oc) v [sZ, sX] (([3, 0] : List Nat).take i)) := Lib.hid (HJ.out.kb (MapAt.kb HMP.out hg5 _) (HJ.out.1.grown hg5 HJ.out.1.size fun j hj => by injection hj with hj; omega))
      clear hm5 hg5 g0 gl s0 sbl hrl HR8 HRR8 hle
      have hlen : (([3, 0] : List Nat).take i).length = i := by have := HI.out; simp; omega
      have hv5 := HJ5.out.2.2.2.1
      rw [hlen] at hv5
      have HV5 := Lib.hid hv5
      have HR5 := Lib.hid (HR1.out.below HJ5.out.1 HR1.out.lt)
      obtain ⟨fb, foff, rfl, fbl, f0⟩ := ((HR.out.kb HKS.out.kb rfl rfl).below HJ5.out.1).dc.c.at_ (show (zV (zN [0, 1, 3]))[k]? = some (.int .i64 (d : Int)) by unfold zV zN; rw [List.getElem?_map, List.getElem?_map, HD.out]; rfl)
      have c1 : w5.cell? ⟨gb, 1, none⟩ = some v := HJ5.out.2.1.cell 1
      have xl := HJ5.out.2.1.lt
      have g1 : w5.cell? ⟨g, 1, none⟩ = some (.slice (some ⟨fb, foff, none⟩) 3 rdc) := HR5.out.cell 1
      have gl := HR5.out.lt
      have HSZ5 := Lib.hid HJ5.out.1.size
      clear hlen hv5
      go_wp2_with fail
      go_region_law (refine step_append_sep rfl (.tmp 47) (.tmp 53) 45 rfl w1.heap.size 3 j0 (.int .i64 0) 1 8 Tryz.underlying45 hj0 yz0 yz1 yz2 rfl (by decide) v i _ (by simp [Act.eval]) (World.ownsRow.alloc (w := w5.drew) HV5.out _) ⟨w5.heap.size, 0, none⟩ 1 1 [.int .i64 (d : Int)] (by simp [Act.eval]) rfl (lit_drew w5 _ _) (ones_int _) (by have := HI.out; unfold maxLen; omega) (by have := HI.out; omega) (Nat.le_trans HSZ5.out (by simp)) ?_; intro v2 w6 hown2 hg2 hs2; obtain ⟨na, nc, rfl⟩ := own_shape hown2; have hx6 : Blk w6 gb 48 #[.slice oa 2 oc, v, .int .i64 0] := ((HJ5.out.2.1.drew_.alloc_ _).grown hg2 (own_ne_blk HV5.out HJ5.out.2.1 (by decide))); have f2 : w6.cell? ⟨gb, 1, none⟩ = some v := hx6.cell 1; have ff2 : w6.frozen? ⟨gb, 1, none⟩ = false := hx6.frozen 1; have fl := hx6.lt; have H6 := Lib.hid (And.intro hown2 (And.intro hg2 hx6)); clear hown2 hg2 hs2 hx6)
      all_goals
        have H6' := Lib.hid (And.intro H6.out (Nat.le_refl 0))
        have hx6 := H6.out.2.2
        have hset := Kp.set (T := TRl) hx6 rfl (Nat.zero_le _) 1 (.slice na (i + 1) nc)
        have hal : Below w5.heap.size w5 (w5.drew.alloc (.cells #[.int .i64 (d : Int)] 3)) := (Below.refl _ _).drew.alloc (by simp) _
        have hk6 : Kb (fun t => t == 3) w5 w6 := ((Kp.of_below (T := fun t => t == 3) (B := 0) hal).kb).trans (own_grown_kb (World.ownsRow.alloc (w := w5.drew) HV5.out _) H6.out.2.1)
        have hb6 : Below w1.heap.size w1 w6 := (HJ5.out.1.trans (hal.mono HJ5.out.1.size)).grown H6.out.2.1 (Nat.le_trans HSZ5.out hal.size) (fun j hj => (HV5.out.lt j hj).1)
        have HJ6 : Hid (JO w1 (w6.setCell ⟨gb, 1, none⟩ (.slice na (i + 1) nc)) gb (.slice oa 2 oc) (.slice na (i + 1) nc) [sZ, sX] (([3, 0] : List Nat).take (i + 1))) := Lib.hid ⟨hb6.setCell (p := ⟨gb, 1, none⟩) HGB.out _, hx6.set_ 1 _, own_kb (own_kb HJ5.out.2.2.1 hk6 rfl) hset.kb rfl, by
          have hl : (([3, 0] : List Nat).take (i + 1)).length = i + 1 := by have := HI.out; simp; omega
          rw [hl, HTK.out]
          have e : zV (zN (([3, 0] : List Nat).take i ++ [d])) = zV (zN (([3, 0] : List Nat).take i)) ++ [.int .i64 (d : Int)] := by unfold zV zN; simp
          rw [e]
          exact own_kb H6.out.1 hset.kb rfl, HGB.out⟩
        have HMP6 : Hid (MapAt (w6.setCell ⟨gb, 1, none⟩ (.slice na (i + 1) nc)) Tryz.prog 9 (gb + 1) (i + 1) (nameM (sdm [sZ, sX]) (i + 1))) := Lib.hid ((MapAt.grown (MapAt.below HMP5.out hal) H6.out.2.1 (fun e => own_not_map HV5.out (MapAt.block HMP5.out).choose_spec.choose_spec e.symm)).kp hset)
        clear H6 H6' hx6 hset hal hk6 hb6 f2 ff2 fl c1 xl g1 gl f0 fbl
        go_wp2_with fail
        go_roundg (2 - (i + 1))
        case measure => have := HM.out; have := HI.out; omega
        case rel => exact ⟨i + 1, _, by have := HM.out; have := HI.out; omega, by go_num, HJ6.out, HMP6.out⟩
    · have hi2 : i = 2 := by have := HM.out; omega
      subst hi2
      clear hi
      have hid : decide (((2 : Nat) : Int) < 2) = false := by decide
      have HR8 := Lib.hid (HR1.out.below HJ.out.1 HR1.out.lt); have HY8 := Lib.hid (HY1.out.below HJ.out.1 HY1.out.lt); have HRL8 := Lib.hid (HRL.out.below HJ.out.1)
      have HRR8 := Lib.hid ((HR.out.kb HKS.out.kb rfl rfl).below HJ.out.1)
      have g0 : wr.cell? ⟨g, 0, none⟩ = some (.slice ra 3 rac) := HR8.out.cell 0
      have g1 : wr.cell? ⟨g, 1, none⟩ = some (.slice rda 3 rdc) := HR8.out.cell 1
      have g2 : wr.cell? ⟨g, 2, none⟩ = some (.int .i64 (kr : Int)) := HR8.out.cell 2
      have gl := HR8.out.lt
      have HCL := Lib.hid (clean_ok wr B p q qn cb xb S HRL8.out ⟨ra, rac, rda, rdc, 3, [sX, sY, sZ], [0, 1, 3], kr⟩ HRR8.out (show 3 ≤ 3 by decide) (show NP.cnt S.l + 3 * 67 ≤ S.budget by have := HRM.out; omega))
      obtain ⟨da, dc, rfl⟩ := own_shape HJ.out.2.2.2.1
      go_wp2_with fail
      refine HCL.out.mono ?_
      rintro e w9 ⟨S1, k1, rfl, hrl9, hkp9, hgo9⟩
      have HRL9 := Lib.hid hrl9; have HKP9 := Lib.hid hkp9; have HGO9 := Lib.hid hgo9
      have HR9 := Lib.hid (hkp9.blk HR8.out rfl); have HY9 := Lib.hid (hkp9.blk HY8.out rfl); have HG9 := Lib.hid (hkp9.blk HJ.out.2.1 rfl)
      clear hrl9 hkp9 hgo9 g0 g1 g2 gl HCL HMP
      have f0 := HR9.out.frozen 0
      have f1 := HR9.out.frozen 1
      have f2 := HR9.out.frozen 2
      have g0 := HR9.out.cell 0
      have g1 := HR9.out.cell 1
      have g2 := HR9.out.cell 2
      have gl := HR9.out.lt
      obtain ⟨k1s, k2s⟩ := setbox HR9.out (.slice ra 3 rac) (.slice rda 3 rdc) (.int .i64 (k1 : Int))
      obtain ⟨w10, hw10⟩ : ∃ w10, w10 = (((w9.setCell ⟨g, 0, none⟩ (.slice ra 3 rac)).setCell ⟨g, 1, none⟩ (.slice rda 3 rdc)).setCell ⟨g, 2, none⟩ (.int .i64 (k1 : Int))) := ⟨_, rfl⟩
      have hy10 := (((HY9.out.far (p := ⟨g, 0, none⟩) (by simp) (.slice ra 3 rac)).far (p := ⟨g, 1, none⟩) (by simp) (.slice rda 3 rdc)).far (p := ⟨g, 2, none⟩) (by simp) (.int .i64 (k1 : Int)))
      have hne : gb ≠ g := by have := HR1.out.lt; have := HGB.out; omega
      have hg10 := (((HG9.out.far (p := ⟨g, 0, none⟩) hne (.slice ra 3 rac)).far (p := ⟨g, 1, none⟩) hne (.slice rda 3 rdc)).far (p := ⟨g, 2, none⟩) hne (.int .i64 (k1 : Int)))
      rw [← hw10] at k1s k2s hy10 hg10
      have HK10 := Lib.hid k1s; have HR10 := Lib.hid k2s; have HY10 := Lib.hid hy10; have HG10 := Lib.hid hg10
      clear k1s k2s hy10 hg10 hne
      go_upto_region 17 with (fail)
      rw [← hw10]
      have HW10 := Lib.hid hw10
      clear hw10 f0 f1 f2 g0 g1 g2 gl
      have HS8 := Lib.hid HJ.out.2.2.1; have HV8 := Lib.hid HJ.out.2.2.2.1
      have HRL10 := Lib.hid (HRL9.out.kpr HK10.out)
      have HI10 := Lib.hid (own_kb (own_kb HV8.out HKP9.out.kb rfl) HK10.out.kb rfl)
      have HS10 := Lib.hid (own_kb (own_kb HS8.out HKP9.out.kb rfl) HK10.out.kb rfl)
      have HRD10 := Lib.hid (((HR.out.kb HKS.out.kb rfl rfl).below HJ.out.1).kb HKP9.out.kb rfl rfl)
      have HRD10' := Lib.hid (HRD10.out.kb HK10.out.kb rfl rfl)
      obtain ⟨hcd, hxB, hsw, za8, zc8, ma8, swp8, hsp, hrow, hle, hask⟩ := HRL10.out
      have c0 : w10.cell? ⟨xb, 0, none⟩ = some (.pointer (some ⟨cb, 0, none⟩)) := hsp.cell 0
      have xl := hsp.lt
      have g1 : w10.cell? ⟨g, 1, none⟩ = some (.slice rda 3 rdc) := HR10.out.cell 1
      have gl := HR10.out.lt
      have HSP := Lib.hid hsp
      have HCO := Lib.hid hcd.code
      have HIC : Hid (Calls Tryz.prog 31 #[.slice rda 3 rdc] w10.drew fun e w' => Below w10.heap.size w10 w' ∧ ∃ blk c', e = .returned (.slice (some ⟨blk, 0, none⟩) 3 c') ∧ w'.ownsRow w10.heap.size 3 1 (.slice (some ⟨blk, 0, none⟩) 3 c') 3 (zV (zN [0, 1, 3]))) := Lib.hid
        ((cloneIo_ok w10.drew w10.heap.size (Nat.le_refl _) rda (zN [0, 1, 3]) 3 rdc rfl (by decide) (by decide) (HRD10'.out.dc.below (Below.refl _ _).drew).c).mono fun e w' h => by
          obtain ⟨h1, a', c', rfl, h2⟩ := h
          obtain ⟨blk, _, hh⟩ := own_some h2 (by decide)
          injection hh with hh _ _
          subst hh
          exact ⟨(Below.refl w10.heap.size w10).drew.trans h1, blk, c', rfl, h2⟩)
      clear hcd hxB hsw hsp hrow hle hask
      go_cut [14] (fun x wx => ∃ (va : Option Addr) (vc : Nat), x = .slice va 2 vc ∧ CellsT wx va (zV (zN [3, 1])) ∧ Below w10.heap.size w10 wx)
      case first =>
        go_region_law (first | (go_simp; go_at_call 31; (with_reducible refine HIC.out.mono ?_); rintro e w11 ⟨hb11, blk, cc, rfl, hown⟩; have hx11 := HSP.out.below hb11 HSP.out.lt; have q0 : w11.cell? ⟨xb, 0, none⟩ = some (.pointer (some ⟨cb, 0, none⟩)) := hx11.cell 0; have ql := hx11.lt; have HDEL := Lib.hid (gone_ok w11 w10.heap.size blk cc gb dc da (.slice oa 2 oc) (.int .i64 0) hown (HG10.out.below hb11 HG10.out.lt) ⟨own_cellsV (own_below HI10.out hb11), own_tbV (own_below HI10.out hb11)⟩ (fun b off s e => by subst e; exact own_low_lt HI10.out) hb11.size); have HB11 := Lib.hid hb11; have HLOW := Lib.hid (hown.lt blk rfl).1; clear hx11 hown hb11) | (go_simp; go_at_call 43; (with_reducible refine HDEL.out.mono ?_); rintro e w12 ⟨rfl, hc12, hb12, hg12⟩; have hbb := HB11.out.trans hb12; have hx12 := HSP.out.below hbb HSP.out.lt; have p0 : w12.cell? ⟨xb, 0, none⟩ = some (.pointer (some ⟨cb, 0, none⟩)) := hx12.cell 0; have pl := hx12.lt; have HVR : Hid (Calls Tryz.prog 42 #[.pointer (some ⟨cb, 0, none⟩), .slice (some ⟨blk, 0, none⟩) 1 cc] w12 (VarsPost [1] w12)) := Lib.hid (vars_ok w12 cb qn (HCO.out.below hbb) (some ⟨blk, 0, none⟩) [1] cc (by decide) (by decide) (by decide) hc12.c); have HBB := Lib.hid hbb; clear hc12 hb12 hg12 hbb hx12) | (go_simp; go_at_call 42; (with_reducible refine HVR.out.mono ?_); rintro e w13 ⟨hb13, va, vc, rfl, hv13, _, _⟩; have H13 := Lib.hid (And.intro hv13 (HBB.out.trans (hb13.mono HBB.out.size))); clear hb13 hv13))
        all_goals
          go_wp2_with fail
          go_meet
          case rel => exact ⟨va, vc, rfl, H13.out.1, H13.out.2⟩
      case rest =>
        obtain ⟨va, vc, rfl, hv, hb13⟩ := hcut
        have HV13 := Lib.hid hv
        have HRL13 := Lib.hid (HRL10.out.below hb13); have HR13 := Lib.hid (HR10.out.below hb13 HR10.out.lt); have HY13 := Lib.hid (HY10.out.below hb13 HY10.out.lt); have HG13 := Lib.hid (HG10.out.below hb13 HG10.out.lt); have HB13 := Lib.hid hb13
        have HS13 := Lib.hid (own_below HS10.out hb13)
        clear hv hb13 c0 xl g1 gl HIC HSP HCO HI10 HR10 HG10 HY10
        obtain ⟨hcd, hxB, hsw, za8, zc8, ma8, swp8, hsp, hrow, hle, hask⟩ := HRL13.out
        have c1 : wc.cell? ⟨xb, 1, none⟩ = some (.pointer (some ⟨qn, 0, none⟩)) := hsp.cell 1
        have xl := hsp.lt
        have r2 : wc.cell? ⟨g, 2, none⟩ = some (.int .i64 (k1 : Int)) := HR13.out.cell 2
        have rl := HR13.out.lt
        have g2 : wc.cell? ⟨gb, 2, none⟩ = some (.int .i64 0) := HG13.out.cell 2
        have gf := HG13.out.frozen 2
        have gl := HG13.out.lt
        have hbd : Below wc.heap.size wc wc.drew := (Below.refl wc.heap.size wc).drew
        have hdep : Dep (VD [0, 1, 3]) (fun ρ => den S1.l ρ k1) := HR.out.dep.cong fun ρ => (HGO9.out.den.says ρ).symm
        have hex := qex_ok wc.drew B p q qn S1 (hcd.sto.below hbd) (hcd.below hbd).ops (hcd.qu.below hbd hcd.qu.lt) (hcd.below hbd).low k1 HGO9.out.den.is va [3, 1] vc (by decide) (HV13.out.below hbd).c (by simp [vOk, hcd.v8]) (VD [0, 1, 3]) hdep 192 (by rw [hcd.v8, rk_013]; decide)
        have HCD := Lib.hid (hcd.below hbd)
        have HEX : Hid (Calls Tryz.prog 45 #[.pointer (some ⟨qn, 0, none⟩), .int .i64 (k1 : Int), .slice va 2 vc] wc.drew (OpPost B p q S1 (exT S1 (inS (fun z => [3, 1].reverse.contains z)) k1) 192 wc.drew)) := Lib.hid hex
        have HROOM := Lib.hid (show NP.cnt S1.l + 192 < S1.budget + 1 by have h1 := HRM.out; have h2 := HGO9.out.cnt; have h3 := HGO9.out.ext.budget; show NP.cnt S1.l + 192 < S1.budget + 1; have h2' : NP.cnt S1.l ≤ NP.cnt S.l + 3 * 67 := h2; omega)
        clear hcd hxB hsw hsp hrow hle hask hbd hdep hex
        have HKS13 : Hid (Ks TX' B w wc) := Lib.hid (by
          have h1 := (HKS.out.trans (Ks.below HJ.out.1 HRL.out.cd.low)).trans (HKP9.out.kx HRL8.out.cd.low)
          have hlow := H.out.cd.low
          have hir : w.heap.size ≤ g := by rw [HG.out]; exact Nat.le_refl _
          have h2 := ((h1.new hlow (p := ⟨g, 0, none⟩) hir (.slice ra 3 rac)).new hlow (p := ⟨g, 1, none⟩) hir (.slice rda 3 rdc)).new hlow (p := ⟨g, 2, none⟩) hir (.int .i64 (k1 : Int))
          rw [← HW10.out] at h2
          exact h2.trans (Ks.below HB13.out HRL10.out.cd.low))
        go_wp2_with fail
        go_cut [13] (fun x wx => ∃ (S2 : NS) (k2 : Nat) (gg : (Nat → Bool) → Bool), x = .int .i64 0 ∧ Rl wx B p q qn cb xb S2 ∧ Ks TX' B w wx ∧ GotOk S1 gg 192 S2 k2 ∧ Blk wx gb 48 #[.slice oa 2 oc, .slice da 2 dc, .int .i64 (k2 : Int)] ∧ Blk wx (g + 1) 48 #[.slice none 0 0, .slice none 0 0, .int .i64 0])
        case first =>
          go_region_law (first | (go_simp; go_at_call 45; (with_reducible refine HEX.out.mono ?_); intro e w14 hp; obtain ⟨S2, k2, rfl, hcd2, hkp2, hgo2⟩ := OpPost.yes hp HCD.out HROOM.out; have hx14 : Blk w14 gb 48 #[.slice oa 2 oc, .slice da 2 dc, .int .i64 0] := hkp2.blk HG13.out.drew_ rfl; have q2 : w14.cell? ⟨gb, 2, none⟩ = some (.int .i64 0) := hx14.cell 2; have qf := hx14.frozen 2; have ql := hx14.lt; clear hx14 hp))
          all_goals
            have hkp92 : Kp TO B wc w14 := (Kp.of_below (Below.refl wc.heap.size wc).drew).trans hkp2
            have HRL14 := Lib.hid (HRL13.out.got hcd2 hkp92 hgo2); have HG14 := Lib.hid (hkp92.blk HG13.out rfl); have HY14 := Lib.hid (hkp92.blk HY13.out rfl); have HGO14 := Lib.hid hgo2; have HKP14 := Lib.hid hkp92
            clear hcd2 hkp2 hgo2 hkp92 q2 qf ql c1 xl r2 rl g2 gf gl
            go_wp2_with fail
            go_meet
            case rel =>
              have hset := Kp.set (T := TRl) HG14.out rfl (Nat.zero_le _) 2 (.int .i64 (k2 : Int))
              have hBw : w.heap.size ≤ gb := Nat.le_trans HKS.out.low.size HGB.out
              have hgg : g + 1 ≠ gb := by have := HY1.out.lt; have := HGB.out; omega
              exact ⟨S2, k2, _, rfl, HRL14.out.kpr hset, ((HKS13.out.trans (HKP14.out.kx HRL13.out.cd.low)).new H.out.cd.low (p := ⟨gb, 2, none⟩) hBw _), HGO14.out, HG14.out.set_ 2 _, HY14.out.far hgg _⟩
        case rest =>
          obtain ⟨S2, k2, gg, rfl, hrl, hks, hgo, hg, hy⟩ := hcut
          have HRL14 := Lib.hid hrl; have HKS14 := Lib.hid hks; have HGO14 := Lib.hid hgo; have HG14 := Lib.hid hg; have HY14 := Lib.hid hy
          clear hrl hks hgo hg hy c1 xl r2 rl g2 gf gl
          have d0 := HG14.out.cell 0
          have d1 := HG14.out.cell 1
          have d2 := HG14.out.cell 2
          have e0 := HY14.out.cell 0
          have e1 := HY14.out.cell 1
          have e2 := HY14.out.cell 2
          have f0 := HY14.out.frozen 0
          have f1 := HY14.out.frozen 1
          have f2 := HY14.out.frozen 2
          have el := HY14.out.lt
          have gl := HG14.out.lt
          go_wp2_with fail
          refine bodyPost_ret (v := .tuple #[.agg #[.slice oa 2 oc, .slice da 2 dc, .int .i64 (k2 : Int)], .int .i64 0]) ?_ rfl ?_
          · rw [results_cell_tmp rfl]; go_simp
          · have h0 := HY14.out
            have h1 := h0.set_ 0 (.slice oa 2 oc)
            have h2 := h1.set_ 1 (.slice da 2 dc)
            have hk := ((Kp.set (T := TRl) h0 rfl (Nat.zero_le _) 0 (.slice oa 2 oc)).trans (Kp.set h1 rfl (Nat.zero_le _) 1 (.slice da 2 dc))).trans (Kp.set h2 rfl (Nat.zero_le _) 2 (.int .i64 (k2 : Int)))
            have hir : w.heap.size ≤ g + 1 := by rw [HG.out]; omega
            have hlow := H.out.cd.low
            have hks := ((HKS14.out.new hlow (p := ⟨g + 1, 0, none⟩) hir (.slice oa 2 oc)).new hlow (p := ⟨g + 1, 1, none⟩) hir (.slice da 2 dc)).new hlow (p := ⟨g + 1, 2, none⟩) hir (.int .i64 (k2 : Int))
            exact ⟨S2, oa, oc, da, dc, k2, gg, rfl, HRL14.out.kpr hk, hks, (HGO9.out.trans HGO14.out)⟩
end Go.Proofs.YtobhjkfkdkiigaaGreatDoor

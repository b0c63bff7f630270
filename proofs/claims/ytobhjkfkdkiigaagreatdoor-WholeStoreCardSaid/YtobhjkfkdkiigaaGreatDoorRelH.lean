/- Layer 9: clones of attributes and domains; Make. 
 Layer 9: New. 
 Layer 9: free, where A, B and C are taken. 
 Layer 9: what Join of the law's relations needs. -/
import Derived.Test.YtobhjkfkdkiigaaGreatDoorRelE
namespace Go.Proofs.YtobhjkfkdkiigaaGreatDoor
open Go.RowKit HP NP LY
theorem getDS {w : World} {b off : Nat} {zs : List ByteArray} (h : ∀ i v, (zs.map Value.string)[i]? = some v → w.cell? ⟨b, off + i, none⟩ = some v) : ∀ j, j < zs.length → w.cell? ⟨b, off + j, none⟩ = some (.string (zs.getD j ByteArray.empty)) := fun j hj => by
  refine h j _ ?_
  rw [List.getElem?_map, List.getElem?_eq_getElem hj, List.getD_eq_getElem?_getD, List.getElem?_eq_getElem hj]; rfl
theorem getDI {w : World} {b off : Nat} {zs : List Int} (h : ∀ i v, (zV zs)[i]? = some v → w.cell? ⟨b, off + i, none⟩ = some v) : ∀ j, j < zs.length → w.cell? ⟨b, off + j, none⟩ = some (.int .i64 (zs.getD j 0)) := fun j hj => by
  refine h j _ ?_
  unfold zV
  rw [List.getElem?_map, List.getElem?_eq_getElem hj, List.getD_eq_getElem?_getD, List.getElem?_eq_getElem hj]; rfl
theorem cloneS_ok (w : World) (a : Option Addr) (l : List ByteArray) (n c : Nat) (hn : l.length = n) (hl : n ≤ 16) (h0 : 0 < n) (hc : Cells w a (l.map Value.string)) :
    Calls Tryz.prog 30 #[.slice a n c] w fun e w' => Below w.heap.size w w' ∧ ∃ a' c', e = .returned (.slice a' n c') ∧ Cells w' a' (l.map Value.string) ∧ TB w' a' 9 := by
  obtain ⟨b, off, rfl, _, hh⟩ := hc (by rw [Ne, List.map_eq_nil_iff]; rintro rfl; simp at hn; omega)
  refine (Tryz.slices_Clone_string b off n c l w (by omega) (by omega) (getDS hh)).mono ?_
  rintro e w' ⟨v', rfl, hown, _, hb⟩
  rw [← hn, List.take_length, hn] at hown
  obtain ⟨ad, cp, rfl, _, _, hcc⟩ := Cells.of_own hown
  exact ⟨hb, ad, cp, rfl, hcc, own_tbV hown⟩
theorem cloneI_ok (w : World) (a : Option Addr) (l : List Int) (n c : Nat) (hn : l.length = n) (hl : n ≤ 16) (h0 : 0 < n) (hc : Cells w a (zV l)) :
    Calls Tryz.prog 31 #[.slice a n c] w fun e w' => Below w.heap.size w w' ∧ ∃ a' c', e = .returned (.slice a' n c') ∧ CellsT w' a' (zV l) := by
  obtain ⟨b, off, rfl, _, hh⟩ := hc (by unfold zV; rw [Ne, List.map_eq_nil_iff]; rintro rfl; simp at hn; omega)
  refine (Tryz.slices_Clone_int b off n c l w (by omega) (by omega) (getDI hh)).mono ?_
  rintro e w' ⟨v', rfl, hown, _, hb⟩
  rw [← hn, List.take_length, hn] at hown
  obtain ⟨ad, cp, rfl, _, _, hcc⟩ := Cells.of_own hown
  exact ⟨hb, ad, cp, rfl, hcc, own_tbV hown⟩
/-- what rows say -/
def rowsG (ds : List Nat) (L : List (List Nat)) (ρ : Nat → Bool) : Bool := L.any fun t => tupG ds t ρ
theorem rowsG_snoc (ds : List Nat) (L : List (List Nat)) (t : List Nat) : rowsG ds (L ++ [t]) = fun ρ => rowsG ds L ρ || tupG ds t ρ := by
  funext ρ; unfold rowsG; simp
theorem pv_mem {ds : List Nat} (h4 : ∀ d ∈ ds, d < 4) {i : Nat} (hi : i < 2 * ds.length) : VD ds (pv ds i) = true := by
  have hd := getD_mem (ds := ds) (i := i / 2) (by omega)
  have h := h4 _ hd
  unfold VD vsD pv
  rw [List.contains_iff_mem, List.mem_flatMap]
  refine ⟨_, hd, ?_⟩
  have hb : i % 2 < (atN (ds.getD (i / 2) 0)).length := by rw [atN_len h]; exact Nat.mod_lt _ (by decide)
  rw [List.getD_eq_getElem?_getD (l := atN _), List.getElem?_eq_getElem hb]
  exact List.getElem_mem hb
theorem tupG_dep {ds : List Nat} (h4 : ∀ d ∈ ds, d < 4) (vals : List Nat) : Dep (VD ds) (tupG ds vals) := fun ρ σ he => by
  unfold tupG
  rw [Bool.eq_iff_iff, List.all_eq_true, List.all_eq_true]
  constructor
  · intro h i hi
    rw [← he _ (pv_mem h4 (List.mem_range.1 hi))]; exact h i hi
  · intro h i hi
    rw [he _ (pv_mem h4 (List.mem_range.1 hi))]; exact h i hi
theorem rowsG_dep {ds : List Nat} (h4 : ∀ d ∈ ds, d < 4) : ∀ L, Dep (VD ds) (rowsG ds L)
  | [] => fun _ _ _ => rfl
  | t :: L => fun ρ σ he => by
    show (tupG ds t ρ || rowsG ds L ρ) = (tupG ds t σ || rowsG ds L σ)
    rw [tupG_dep h4 t ρ σ he, rowsG_dep h4 L ρ σ he]
abbrev TX' : TypeId → Bool := fun t => TO t || t == 97
abbrev TG : TypeId → Bool := fun t => TO t || t == 48
theorem Ks.new {T : TypeId → Bool} {B : Nat} {w w' : World} (h : Ks T B w w') (hB : B ≤ w.heap.size) {p : Addr} (hp : w.heap.size ≤ p.block) (u : Value) : Ks T B w (w'.setCell p u) :=
  ⟨h.low.setCell (Nat.le_trans hB hp) u, fun c t cs hb ht => (h.kb c t cs hb ht).far (by have := hb.lt; intro e; omega) u⟩
theorem to_tx : ∀ t, TO t = true → TX' t = true := fun t ht => by
  show (TO t || t == 97) = true
  rw [Bool.or_eq_true]; exact .inl ht
theorem to_tg : ∀ t, TO t = true → TG t = true := fun t ht => by
  show (TO t || t == 48) = true
  rw [Bool.or_eq_true]; exact .inl ht
theorem Kp.kx {B : Nat} {a b : World} (h : Kp TO B a b) (hB : B ≤ a.heap.size) : Ks TX' B a b := (Ks.kp h hB).mono to_tx
theorem Kb.tg {a b : World} (h : Kb TO a b) : Kb TG a b := h.mono to_tg
def MakePost (B p q qn cb xb : Nat) (S : NS) (l : List ByteArray) (ds : List Nat) (g : (Nat → Bool) → Bool) (n : Nat) (w : World) (e : Ending) (w' : World) : Prop :=
  ∃ (S' : NS) (r : RD), e = .returned (.tuple #[rdV r, .int .i64 0]) ∧ r.nms = l ∧ r.ds = ds ∧ RelOk w' S' r ∧ Rl w' B p q qn cb xb S' ∧ Ks TX' B w w' ∧ GotOk S g n S' r.k
set_option maxRecDepth 100000 in
set_option maxHeartbeats 6400000 in
theorem make_ok' (w : World) (B p q qn cb xb : Nat) (S : NS) (h : Rl w B p q qn cb xb S) (la : Option Addr) (lc : Nat) (l : List ByteArray) (hl : NmOk l) (hlc : Cells w la (l.map Value.string)) (da : Option Addr) (dc : Nat) (ds : List Nat) (hdc : CellsT w da (zV (zN ds)))
    (hn2 : l.length = 2) (hd2 : ds.length = 2) (h4 : ∀ d ∈ ds, d < 4) (hnd : ds.Nodup) (ta : Option Addr) (tc N : Nat) (L : List (List Nat)) (hN : L.length = N) (hN16 : N ≤ 16) (hrow : ∀ t ∈ L, t.length = 2 ∧ ∀ v ∈ t, v < 4) (htc : 0 < N → RowsT w ta (L.map zN)) (hr : NP.cnt S.l + N * 19 ≤ S.budget) :
    Calls Tryz.prog 10 #[.pointer (some ⟨xb, 0, none⟩), .slice la 2 lc, .slice da 2 dc, .slice ta N tc] w (MakePost B p q qn cb xb S l ds (rowsG ds L) (N * 19) w) := by
  have H := Lib.hid h; have HL := Lib.hid hl; have HLC := Lib.hid hlc; have HDC := Lib.hid hdc; have H4 := Lib.hid h4; have HND := Lib.hid hnd; have HNN := Lib.hid hN; have HROW := Lib.hid hrow; have HTC := Lib.hid htc; have HRR := Lib.hid hr; have HN2 := Lib.hid hn2; have HD2 := Lib.hid hd2
  clear h hl hlc hdc h4 hnd hN hrow htc hr hn2 hd2
  go_enter Tryz.func10, Tryz.ntmps10
  have hb0 : Below w.heap.size w (w.alloc (.cells #[.slice none 0 0, .slice none 0 0, .int .i64 0] 48)) := (Below.refl _ _).alloc (Nat.le_refl _) _
  have hy0 : Blk (w.alloc (.cells #[.slice none 0 0, .slice none 0 0, .int .i64 0] 48)) w.heap.size 48 #[.slice none 0 0, .slice none 0 0, .int .i64 0] := Blk.new_ _ _ _
  have HB0 := Lib.hid hb0; have HY0 := Lib.hid hy0
  clear hb0 hy0
  go_wp2_with fail
  generalize w.alloc (.cells #[.slice none 0 0, .slice none 0 0, .int .i64 0] 48) = w0 at HB0 HY0 ⊢
  obtain ⟨rb, hrb⟩ : ∃ rb, rb = w.heap.size := ⟨_, rfl⟩
  rw [← hrb] at HY0 ⊢
  have HRBE := Lib.hid hrb
  clear hrb
  refine (cloneS_ok w0 la l 2 lc HN2.out (by decide) (by decide) (HLC.out.below HB0.out)).mono ?_
  rintro e w1 ⟨hb1, aa, ac, rfl, hac, hat⟩
  have HB1 := Lib.hid (HB0.out.trans (hb1.mono HB0.out.size)); have HY1 := Lib.hid (HY0.out.below hb1 HY0.out.lt); have HAC := Lib.hid hac; have HAT := Lib.hid hat
  clear hb1 hac hat HB0 HY0
  go_wp2_with fail
  refine (cloneI_ok w1 da (zN ds) 2 dc (by rw [zN_len]; exact HD2.out) (by decide) (by decide) (HDC.out.below HB1.out).c).mono ?_
  rintro e w2 ⟨hb2, da', dc', rfl, hdc'⟩
  have HB2 := Lib.hid (HB1.out.trans (hb2.mono HB1.out.size)); have HY2 := Lib.hid (HY1.out.below hb2 HY1.out.lt); have HAC2 := Lib.hid (HAC.out.below hb2); have HAT2 := Lib.hid (tb_below HAT.out hb2); have HDC2 := Lib.hid hdc'
  clear hb2 hdc' HB1 HY1 HAC HAT
  go_wp2_with fail
  obtain ⟨W3, hW3⟩ : ∃ W3, W3 = ((w2.alloc (.cells #[.slice aa 2 ac, .slice da' 2 dc', .int .i64 0] 48)).alloc (.cells #[.slice aa 2 ac, .slice da' 2 dc', .int .i64 0] 48)) := ⟨_, rfl⟩
  obtain ⟨g, hg⟩ : ∃ g, g = w2.heap.size := ⟨_, rfl⟩
  have hb3 : Below w2.heap.size w2 W3 := by rw [hW3]; exact ((Below.refl _ _).alloc (Nat.le_refl _) _).alloc (by simp) _
  have hx3 : Blk W3 g 48 #[.slice aa 2 ac, .slice da' 2 dc', .int .i64 0] := by rw [hW3, hg]; exact (Blk.new_ _ _ _).alloc_ _
  have hz3 : Blk W3 (g + 1) 48 #[.slice aa 2 ac, .slice da' 2 dc', .int .i64 0] := by
    rw [hW3, hg]
    have := Blk.new_ (w2.alloc (.cells #[.slice aa 2 ac, .slice da' 2 dc', .int .i64 0] 48)) 48 (#[.slice aa 2 ac, .slice da' 2 dc', .int .i64 0])
    simpa using this
  rw [← hW3, ← hg]
  have HB3 := Lib.hid (HB2.out.trans (hb3.mono HB2.out.size)); have HY3 := Lib.hid (HY2.out.below hb3 HY2.out.lt); have HX3 := Lib.hid hx3
  have HGE := Lib.hid (show rb < g by rw [hg]; exact HY2.out.lt)
  have HRO3 : Hid (RelOk W3 S ⟨aa, ac, da', dc', 2, l, ds, 0⟩) := Lib.hid ⟨HN2.out, HD2.out, HAC2.out.below hb3, tb_below HAT2.out hb3, HDC2.out.below hb3, HL.out, H4.out, HND.out, H.out.cd.sto.wf.is0, fun ρ σ _ => by
    show den S.l ρ 0 = den S.l σ 0
    rw [den_leaf _ _ (by decide), den_leaf _ _ (by decide)]⟩
  have hmay := rmay_ok W3 B p q qn cb xb S (H.out.below HB3.out) (some ⟨g + 1, 0, none⟩) 1 [⟨aa, ac, da', dc', 2, l, ds, 0⟩] (by simp) (fun _ => ⟨g + 1, 0, rfl, hz3.lt, fun i v hv => by
      rw [Nat.zero_add, hz3.cell]
      rw [← Array.getElem?_toList]; exact hv⟩) (tb_some ⟨_, hz3⟩) (fun r hr => by
      rw [List.mem_singleton] at hr; subst hr; exact HRO3.out)
  have HMAY := Lib.hid hmay
  clear hW3 hg hb3 hx3 hz3 hmay HB2 HY2 HAC2 HAT2 HDC2
  refine HMAY.out.mono ?_
  rintro e w4 ⟨rfl, hrl4, hks4⟩
  have HRL4 := Lib.hid hrl4; have HKS4 : Hid (Ks TX' B w w4) := Lib.hid ((Ks.below HB3.out H.out.cd.low).trans (hks4.mono fun t ht => by
    show (TO t || t == 97) = true
    rw [Bool.or_eq_true]; exact .inr ht)); have HY4 := Lib.hid (hks4.kb _ _ _ HY3.out rfl); have HX4 := Lib.hid (hks4.kb _ _ _ HX3.out rfl); have HRO4 := Lib.hid (HRO3.out.kb hks4.kb rfl rfl)
  have HLO4 := Lib.hid (show w.heap.size ≤ w4.heap.size from HKS4.out.low.size)
  clear hrl4 hks4 HMAY HRO3 HX3 HY3
  have hN0 : (0 : Int) ≤ ((N : Nat) : Int) := by omega
  go_wp2_with fail
  go_loopg [28] N (fun mm y wr => ∃ (i kk : Nat) (S' : NS), mm + i = N ∧ y = .int .i64 (i : Int) ∧ Rl wr B p q qn cb xb S' ∧ GotOk S (rowsG ds (L.take i)) (i * 19) S' kk ∧ Ks TX' B w wr ∧ Kb TG w4 wr ∧ Blk wr g 48 #[.slice aa 2 ac, .slice da' 2 dc', .int .i64 (kk : Int)] ∧ Blk wr rb 48 #[.slice none 0 0, .slice none 0 0, .int .i64 0])
  case atStart =>
    have hwf := H.out.cd.sto.wf
    exact ⟨0, 0, S, by omega, rfl, HRL4.out, by rw [Nat.zero_mul]; exact ⟨hwf, Ext.refl _, ⟨hwf.is0, fun ρ => den_leaf _ _ (by decide)⟩, by omega, fun _ => Nat.le_refl _, rfl⟩, HKS4.out, fun _ _ _ h _ => h, HX4.out, HY4.out⟩
  case round =>
    obtain ⟨i, kk, S', hm, rfl, hrl, hgo, hbl, hkb, hx, hy⟩ := hrel
    have HM := Lib.hid hm; have HRL := Lib.hid hrl; have HGO := Lib.hid hgo; have HBL := Lib.hid hbl; have HKB := Lib.hid hkb; have HX := Lib.hid hx; have HY := Lib.hid hy
    clear hm hrl hgo hbl hkb hx hy
    by_cases hi : i < N
    · have hil : i < L.length := by rw [HNN.out]; exact hi
      obtain ⟨t, ht⟩ : ∃ t, L[i]? = some t := ⟨_, List.getElem?_eq_getElem hil⟩
      obtain ⟨ht2, htv⟩ := HROW.out t (List.mem_of_getElem? ht)
      have hrt : RowsT wr ta (L.map zN) := ((HTC.out (by omega)).kb HKS4.out.kb rfl rfl).kb HKB.out rfl rfl
      obtain ⟨sb, soff, ad, cap, rfl, sbl, s0, sct, _⟩ := hrt.at_ (i := i) (l := zN t) (by rw [List.getElem?_map, ht]; rfl)
      rw [zN_len, ht2] at s0
      obtain ⟨hcd, hxB, hsw, za, zc, ma, swp, hsp, hrow, hle, hask⟩ := HRL.out
      have hid : decide (((i : Nat) : Int) < ((N : Nat) : Int)) = true := decide_eq_true (by omega)
      have hip : ((i : Nat) : Int) < ((N : Nat) : Int) := by omega
      have hip0 : (0 : Int) ≤ ((i : Nat) : Int) := by omega
      have c0 : wr.cell? ⟨xb, 0, none⟩ = some (.pointer (some ⟨cb, 0, none⟩)) := hsp.cell 0
      have xl := hsp.lt
      have hroom : NP.cnt S'.l + 4 + 15 ≤ S'.budget := by
        have h1 := HGO.out.cnt; have h2 := HRR.out; have h3 := HGO.out.ext.budget
        have h5 : (i + 1) * 19 ≤ N * 19 := Nat.mul_le_mul_right _ (by omega)
        omega
      have hdc : CellsT wr da (zV (zN ds)) := (HDC.out.kb HKS4.out.kb rfl).kb HKB.out rfl
      have htu := tuple_ok wr B p q qn cb S' hcd da ad ds t dc cap (by rw [HD2.out]; decide) (by rw [ht2, HD2.out]) H4.out htv HND.out hdc.c sct.c (by rw [HD2.out]; omega)
      rw [HD2.out, ht2] at htu
      have HTU := Lib.hid htu; have HROOM := Lib.hid hroom; have HI := Lib.hid hi; have HT := Lib.hid ht
      clear hil ht ht2 htv hrt hcd hxB hsw hsp hrow hle hask hdc htu hroom hi sct
      go_wp2_with fail
      refine HTU.out.mono ?_
      rintro e w8 ⟨S1, k1, rfl, hcd1, hkp1, hgo1⟩
      have HRL8 := Lib.hid (HRL.out.got hcd1 hkp1 hgo1); have HX8 := Lib.hid (hkp1.blk HX.out rfl); have HY8 := Lib.hid (hkp1.blk HY.out rfl); have HBL8 := Lib.hid (HBL.out.trans (hkp1.kx HRL.out.cd.low)); have HKB8 := Lib.hid (HKB.out.trans hkp1.kb.tg); have HGO1 := Lib.hid hgo1
      have HGK : Hid (Den S1 kk (rowsG ds (L.take i))) := Lib.hid (HGO.out.den.ext hgo1.ext HGO.out.wf hgo1.wf)
      clear hcd1 hkp1 hgo1 c0 xl s0 sbl HX HY HBL HKB HTU
      obtain ⟨hcd, hxB, hsw, za8, zc8, ma8, swp8, hsp, hrow, hle, hask⟩ := HRL8.out
      have c1 : w8.cell? ⟨xb, 1, none⟩ = some (.pointer (some ⟨qn, 0, none⟩)) := hsp.cell 1
      have xl := hsp.lt
      have g2 : w8.cell? ⟨g, 2, none⟩ = some (.int .i64 (kk : Int)) := HX8.out.cell 2
      have gf := HX8.out.frozen 2
      have gl := HX8.out.lt
      have hroom2 : NP.cnt S1.l + 15 < S1.budget + 1 := by have h1 := HROOM.out; have h2 := HGO1.out.cnt; have h3 := HGO1.out.ext.budget; omega
      have hpow : 2 ^ rk (VD ds) 8 0 ≤ 15 + 1 := by
        have h1 : rk (VD ds) 8 0 ≤ 2 * ds.length := rk_VD H4.out
        have h2 : ds.length = 2 := HD2.out
        exact Nat.pow_le_pow_right (by decide) (by omega : rk (VD ds) 8 0 ≤ 4)
      have hand := cor_ok w8.drew B p q qn cb S1 (hcd.below (Below.refl _ _).drew) kk k1 (rowsG ds (L.take i)) (tupG ds t) HGK.out HGO1.out.den (VD ds) (rowsG_dep H4.out _) (tupG_dep H4.out _) 15 hpow hroom2
      have HAND := Lib.hid hand
      have HQU := Lib.hid (qops_ok w8.drew qn p q (hcd.qu.below (Below.refl w8.heap.size w8).drew hcd.qu.lt))
      clear hcd hxB hsw hsp hrow hle hask hroom2 hpow hand
      go_wp2_with fail
      go_region_law (first | (go_simp; go_at_call 20; (with_reducible refine HQU.out.mono ?_); rintro e w9 ⟨rfl, rfl⟩) | (go_simp; go_at_call 34; (with_reducible refine HAND.out.mono ?_); rintro e w9 ⟨S2, k2, rfl, hcd2, hkp2, hgo2⟩; have hx9 : Blk w9 g 48 #[.slice aa 2 ac, .slice da' 2 dc', .int .i64 (kk : Int)] := hkp2.blk HX8.out.drew_ rfl; have q2 : w9.cell? ⟨g, 2, none⟩ = some (.int .i64 (kk : Int)) := hx9.cell 2; have qf := hx9.frozen 2; have ql := hx9.lt; clear hx9))
      all_goals
        have hkp82 : Kp TO B w8 w9 := (Kp.of_below (Below.refl w8.heap.size w8).drew).trans hkp2
        have HRL9 := Lib.hid (HRL8.out.got hcd2 hkp82 hgo2); have HX9 := Lib.hid (hkp82.blk HX8.out rfl); have HY9 := Lib.hid (hkp82.blk HY8.out rfl); have HBL9 := Lib.hid (HBL8.out.trans (hkp82.kx HRL8.out.cd.low)); have HKB9 := Lib.hid (HKB8.out.trans hkp82.kb.tg); have HGO2 := Lib.hid hgo2
        clear hcd2 hkp2 hgo2 hkp82 q2 qf ql c1 xl g2 gf gl
        go_wp2_with fail
        go_roundg (N - (i + 1))
        case measure => have := HM.out; have := HI.out; omega
        case rel =>
          have hx := HX9.out
          have hset := Kp.set (T := TRl) hx rfl (Nat.zero_le _) 2 (.int .i64 (k2 : Int))
          have e1 : L.take (i + 1) = L.take i ++ [t] := by rw [List.take_add_one, HT.out]; rfl
          have hgo2 := HGO2.out
          exact ⟨i + 1, k2, S2, by have := HM.out; have := HI.out; omega, rfl, HRL9.out.kpr hset, by rw [e1, rowsG_snoc]; exact (HGO.out.trans (HGO1.out.trans hgo2)).mono (by omega), HBL9.out.new H.out.cd.low (by have := HGE.out; have := HRBE.out; show w.heap.size ≤ g; omega) _, HKB9.out.trans (hset.kb.mono fun t ht => by
            show (TO t || t == 48) = true
            rw [Bool.or_eq_true]; exact .inr ht), hx.set_ 2 _, HY9.out.far (by have := HGE.out; show rb ≠ g; omega) _⟩
    · have hi2 : i = N := by have := HM.out; omega
      have hid : decide (((i : Nat) : Int) < ((N : Nat) : Int)) = false := decide_eq_false (by omega)
      have d0 : wr.cell? ⟨g, 0, none⟩ = some (.slice aa 2 ac) := HX.out.cell 0
      have d1 : wr.cell? ⟨g, 1, none⟩ = some (.slice da' 2 dc') := HX.out.cell 1
      have d2 : wr.cell? ⟨g, 2, none⟩ = some (.int .i64 (kk : Int)) := HX.out.cell 2
      have e0 : wr.cell? ⟨rb, 0, none⟩ = some (.slice none 0 0) := HY.out.cell 0
      have e1 : wr.cell? ⟨rb, 1, none⟩ = some (.slice none 0 0) := HY.out.cell 1
      have e2 : wr.cell? ⟨rb, 2, none⟩ = some (.int .i64 0) := HY.out.cell 2
      have f0 := HY.out.frozen 0
      have f1 := HY.out.frozen 1
      have f2 := HY.out.frozen 2
      have el := HY.out.lt
      have gl := HX.out.lt
      clear hi
      go_wp2_with fail
      refine bodyPost_ret (v := .tuple #[rdV ⟨aa, ac, da', dc', 2, l, ds, kk⟩, .int .i64 0]) ?_ rfl ?_
      · rw [results_cell_tmp rfl]; go_simp
      · have h0 := HY.out
        have h1 := h0.set_ 0 (.slice aa 2 ac)
        have h2 := h1.set_ 1 (.slice da' 2 dc')
        have hk9 := ((Kp.set (T := TRl) h0 rfl (Nat.zero_le _) 0 (.slice aa 2 ac)).trans (Kp.set h1 rfl (Nat.zero_le _) 1 (.slice da' 2 dc'))).trans (Kp.set h2 rfl (Nat.zero_le _) 2 (.int .i64 (kk : Int)))
        have hir : w.heap.size ≤ rb := by rw [HRBE.out]; exact Nat.le_refl _
        have hgo := HGO.out
        have etk : L.take i = L := by rw [hi2, ← HNN.out, List.take_length]
        rw [etk, hi2] at hgo
        have hro := (HRO4.out.kb HKB.out rfl rfl).kb hk9.kb rfl rfl
        have hden : (fun ρ => den S'.l ρ kk) = rowsG ds L := funext hgo.den.says
        exact ⟨S', ⟨aa, ac, da', dc', 2, l, ds, kk⟩, rfl, rfl, rfl, ⟨hro.an, hro.dn, hro.ac, hro.at_, hro.dc, hro.nm, hro.d4, hro.dd, hgo.den.is, by show Dep (VD ds) (fun ρ => den S'.l ρ kk); rw [hden]; exact rowsG_dep H4.out _⟩, HRL.out.kpr hk9, ((HBL.out.new H.out.cd.low hir _).new H.out.cd.low hir _).new H.out.cd.low hir _, hgo⟩
end Go.Proofs.YtobhjkfkdkiigaaGreatDoor

namespace Go.Proofs.YtobhjkfkdkiigaaGreatDoor
open Go.RowKit HP NP LY
abbrev NwBlk (w : World) (xb cb qn : Nat) (u : Value) : Prop := Blk w xb 97 #[.pointer (some ⟨cb, 0, none⟩), .pointer (some ⟨qn, 0, none⟩), u, .map none, .int .i64 0]
def r4 (i : Nat) : List Value := List.replicate i (.int .i64 4)
theorem r4_snoc (i : Nat) : r4 i ++ [.int .i64 4] = r4 (i + 1) := by unfold r4; rw [List.replicate_succ']
theorem Only.belowR {F : Nat → Prop} {a b c : World} (h : Only F a b) (k : Below a.heap.size b c) : Only F a c :=
  ⟨k.os.trans h.os, k.tape.trans h.tape, k.output.trans h.output, Nat.le_trans h.size k.size, fun i hi hn => (k.block i hi).trans (h.block i hi hn)⟩
set_option maxRecDepth 100000 in
set_option maxHeartbeats 1600000 in
theorem cdoms2_ok (w : World) (cb qn : Nat) (h : CodeAt w cb qn) : Calls Tryz.prog 27 #[.pointer (some ⟨cb, 0, none⟩)] w fun e w' => Below w.heap.size w w' ∧ ∃ a c, e = .returned (.slice a 4 c) ∧ Cells w' a (d4.flatMap domCells) ∧ TB w' a 37 := by
  obtain ⟨da, dc, aa, ac, hb, ⟨hd, _⟩, _⟩ := h
  obtain ⟨b, off, rfl, _⟩ := hd (by decide)
  have HC := Lib.hid (clone_dom w b off dc d4 (by decide) hd)
  rw [show d4.length = 4 from rfl] at HC
  have c1 : w.cell? ⟨cb, 1, none⟩ = some (.slice (some ⟨b, off, none⟩) 4 dc) := hb.cell 1
  have cl := hb.lt
  clear hb hd
  go_enter Tryz.func27, Tryz.ntmps27
  go_wp2_with fail
  refine HC.out.mono ?_
  rintro e w1 ⟨hb, v', rfl, ho⟩
  have HB := Lib.hid hb; have HO := Lib.hid ho
  clear hb ho
  go_wp2_with fail
  go_ret
  obtain ⟨oa, oc, rfl⟩ := own_shape HO.out
  exact ⟨HB.out, oa, oc, rfl, own_cellsV HO.out, own_tbV HO.out⟩
set_option maxRecDepth 100000 in
set_option maxHeartbeats 6400000 in
theorem rnew_ok (w : World) (B p q qn cb : Nat) (S : NS) (h : Cd w B p q qn cb S) (hsw : S.sweeps < 1048576) :
    Calls Tryz.prog 8 #[.pointer (some ⟨cb, 0, none⟩)] w fun e w' => ∃ xb, e = .returned (.tuple #[.pointer (some ⟨xb, 0, none⟩), .int .i64 0]) ∧ Rl w' B p q qn cb xb S ∧ Below w.heap.size w w' := by
  have H := Lib.hid h; have HSW := Lib.hid hsw
  clear h hsw
  obtain ⟨j0, hj0, yz0, yz1, yz2⟩ := info_parts int_infoL
  have HQ := Lib.hid (cquan_ok w cb qn H.out.code)
  go_enter Tryz.func8, Tryz.ntmps8
  go_wp2_with fail
  refine HQ.out.mono ?_
  rintro e w1 ⟨rfl, rfl⟩
  go_wp2_with fail
  refine HQ.out.mono ?_
  rintro e w1 ⟨rfl, rfl⟩
  clear HQ
  go_upto_region 4 with (fail)
  have hb0 : Below w.heap.size w (w.alloc (.cells #[.pointer (some ⟨cb, 0, none⟩), .pointer (some ⟨qn, 0, none⟩), .slice none 0 0, .map none, .int .i64 0] 97)) := (Below.refl _ _).alloc (Nat.le_refl _) _
  have hx0 : NwBlk (w.alloc (.cells #[.pointer (some ⟨cb, 0, none⟩), .pointer (some ⟨qn, 0, none⟩), .slice none 0 0, .map none, .int .i64 0] 97)) w.heap.size cb qn (.slice none 0 0) := Blk.new_ _ _ _
  generalize w.alloc (.cells #[.pointer (some ⟨cb, 0, none⟩), .pointer (some ⟨qn, 0, none⟩), .slice none 0 0, .map none, .int .i64 0] 97) = w1 at hb0 hx0 ⊢
  obtain ⟨xb, hxb⟩ : ∃ xb, xb = w.heap.size := ⟨_, rfl⟩
  rw [← hxb] at hx0 ⊢
  have HB0 := Lib.hid hb0; have HX0 := Lib.hid hx0; have HXB := Lib.hid hxb
  clear hb0 hx0 hxb
  go_wp2_with fail
  refine (cdoms2_ok w1 cb qn (H.out.code.below HB0.out)).mono ?_
  rintro e w2 ⟨hb2, a, c, rfl, hdc, hdt⟩
  have HB2 := Lib.hid (HB0.out.trans (hb2.mono HB0.out.size)); have HX2 := Lib.hid (HX0.out.below hb2 HX0.out.lt); have HDC := Lib.hid hdc; have HDT := Lib.hid hdt
  clear hb2 hdc hdt HB0 HX0
  go_wp2_with fail
  go_loopg [18] 4 (fun mm y wr => ∃ (i : Nat) (u : Value), mm + i = 4 ∧ y = .int .i64 (i : Int) ∧ NwBlk wr xb cb qn u ∧ wr.ownsRow w2.heap.size 3 1 u i (r4 i) ∧ Kp TX 0 w2 wr ∧ Below w.heap.size w wr)
  case atStart => exact ⟨0, .slice none 0 0, rfl, rfl, HX2.out, World.ownsRow_nil _ _ _ _, Kp.refl _ _ _, HB2.out⟩
  case round =>
    obtain ⟨i, u, hm, rfl, hx, ho, hk, hb⟩ := hrel
    have HM := Lib.hid hm; have HX := Lib.hid hx; have HO := Lib.hid ho; have HK := Lib.hid hk; have HB := Lib.hid hb
    clear hm hx ho hk hb
    by_cases hi : i < 4
    · obtain ⟨nm, hnm⟩ := d4_get hi
      obtain ⟨sb, soff, rfl, sbl, s0, s1⟩ := Cells.dom (HDC.out.kb HDT.out HK.out.kb rfl) hnm
      have hid : decide (((i : Nat) : Int) < 4) = true := decide_eq_true (by omega)
      have hip : ((i : Nat) : Int) < 4 := by omega
      have hip0 : (0 : Int) ≤ ((i : Nat) : Int) := by omega
      have HI := Lib.hid hi
      clear hi hnm
      obtain ⟨w3, hw3⟩ : ∃ w3, w3 = wr.alloc (.cells #[.string nm, .int .i64 4] 37) := ⟨_, rfl⟩
      go_upto_region 7 with (fail)
      have hb3 : Below wr.heap.size wr w3 := by rw [hw3]; exact (Below.refl _ _).alloc (Nat.le_refl _) _
      have hd3 : Blk w3 wr.heap.size 37 #[.string nm, .int .i64 4] := by rw [hw3]; exact Blk.new_ _ _ _
      rw [← hw3]
      have HB3 := Lib.hid hb3; have HD3 := Lib.hid hd3; have HX3 := Lib.hid (show NwBlk w3 xb cb qn u from HX.out.below hb3 HX.out.lt); have HO3 := Lib.hid (own_below HO.out hb3)
      have c2 : w3.cell? ⟨xb, 2, none⟩ = some u := HX3.out.cell 2
      have xl := HX3.out.lt
      have g1 : w3.cell? ⟨wr.heap.size, 1, none⟩ = some (.int .i64 4) := HD3.out.cell 1
      have gl := HD3.out.lt
      have hbase : w2.heap.size ≤ w3.heap.size := Nat.le_trans HK.out.size HB3.out.size
      clear hw3 hb3 hd3 s0 s1 sbl
      go_region_law (refine step_append_sep rfl (.tmp 26) (.tmp 29) 45 rfl w2.heap.size 3 j0 (.int .i64 0) 1 8 Tryz.underlying45 hj0 yz0 yz1 yz2 rfl (by decide) u i _ (by simp [Act.eval]) (World.ownsRow.alloc (w := w3.drew) HO3.out _) ⟨w3.heap.size, 0, none⟩ 1 1 [.int .i64 4] (by simp [Act.eval]) rfl (lit_drew w3 _ _) (ones_int _) (by have := HI.out; unfold maxLen; omega) (by have := HI.out; omega) (by simp; omega) ?_; intro v2 w4 hown2 hg2 hs2; obtain ⟨oa, oc, rfl⟩ := own_shape hown2; have hx4 : NwBlk w4 xb cb qn u := ((HX3.out.drew_.alloc_ _).grown hg2 (own_ne_blk HO3.out HX3.out (by decide))); have f0 : w4.cell? ⟨xb, 2, none⟩ = some u := hx4.cell 2; have ff0 : w4.frozen? ⟨xb, 2, none⟩ = false := hx4.frozen 2; have fl := hx4.lt; have H2 := Lib.hid (And.intro hown2 (And.intro hg2 (And.intro hs2 hx4))); clear hown2 hg2 hs2 hx4)
      all_goals
        have hal : Below w3.heap.size w3 (w3.drew.alloc (.cells #[.int .i64 4] 3)) := (Below.refl _ _).drew.alloc (by simp) _
        have h43 : Below w2.heap.size w3 w4 := (hal.mono hbase).grown H2.out.2.1 (by simp; omega) (fun j hj => (HO3.out.lt j hj).1)
        have h43w : Below w.heap.size w3 w4 := h43.mono HB2.out.size
        have HH := Lib.hid (And.intro h43 h43w)
        clear hal h43 h43w f0 ff0 fl c2 xl g1 gl hbase
        go_wp2_with fail
        go_roundg (4 - (i + 1))
        case measure => have := HM.out; have := HI.out; omega
        case rel =>
          have hx4 := H2.out.2.2.2
          have hset := Kp.set (T := TX) hx4 rfl (Nat.zero_le _) 2 (.slice oa (i + 1) oc)
          have hown : w4.ownsRow w2.heap.size 3 1 (.slice oa (i + 1) oc) (i + 1) (r4 (i + 1)) := by rw [← r4_snoc]; exact H2.out.1
          have hk4 : Kp TX 0 w2 w4 := Only.belowR (HK.out.trans (Kp.of_below HB3.out)) HH.out.1
          refine ⟨i + 1, .slice oa (i + 1) oc, by have := HM.out; have := HI.out; omega, rfl, hx4.set_ 2 _, own_kb hown hset.kb rfl, hk4.trans hset, ?_⟩
          exact (((HB.out.trans (HB3.out.mono HB.out.size)).trans HH.out.2)).setCell (by rw [HXB.out]; exact Nat.le_refl _) _
    · have hi2 : i = 4 := by have := HM.out; omega
      have hid : decide (((i : Nat) : Int) < 4) = false := decide_eq_false (by omega)
      subst hi2
      clear hi
      go_wp2_with fail
      go_ret2
      obtain ⟨oa, oc, rfl⟩ := own_shape HO.out
      refine ⟨xb, rfl, ⟨?_, ?_, HSW.out, oa, oc, none, 0, HX.out, ⟨own_cellsV HO.out, own_tbV HO.out⟩, Nat.zero_le _, fun mb e => by cases e⟩, HB.out⟩
      · have hb := HB.out
        exact H.out.below hb
      · rw [HXB.out]; exact H.out.low
end Go.Proofs.YtobhjkfkdkiigaaGreatDoor

namespace Go.Proofs.YtobhjkfkdkiigaaGreatDoor
open Go.RowKit HP NP LY
/-- the domains that are taken -/
def tkM (ds : List Nat) : Nat → Option Bool := fun k => if k ∈ ds then some true else none
theorem tkM_no {ds : List Nat} {i : Nat} (h : i ∉ ds) : tkM ds i = none := if_neg h
theorem tkM_yes {ds : List Nat} {i : Nat} (h : i ∈ ds) : tkM ds i = some true := if_pos h
theorem tkM_snoc (ds : List Nat) (d : Nat) : (fun x => if x = d then some true else tkM ds x) = tkM (ds ++ [d]) := by
  funext x
  unfold tkM
  by_cases e : x = d
  · subst e; simp
  · simp [e]
set_option maxRecDepth 100000 in
set_option maxHeartbeats 6400000 in
theorem free_ok (w : World) (B p q qn cb xb : Nat) (S : NS) (h : Rl w B p q qn cb xb S) (mb : Nat) (ds : List Nat) (hds : ∀ d, d ∈ ds ↔ d < 3) (hm : BMap w mb (tkM ds)) :
    Calls Tryz.prog 38 #[.pointer (some ⟨xb, 0, none⟩), .int .i64 4, .map (some mb)] w fun e w' => e = .returned (.tuple #[.int .i64 3, .bool true]) ∧ w = w' := by
  have H := Lib.hid h; have HD := Lib.hid hds; have HMP := Lib.hid hm
  obtain ⟨hcd, hxB, hsw, za, zc, ma, swp, hsp, hrow, hle, hask⟩ := h
  have c2 : w.cell? ⟨xb, 2, none⟩ = some (.slice za 4 zc) := hsp.cell 2
  have xl := hsp.lt
  have HROW := Lib.hid hrow
  clear hcd hxB hsw hsp hrow hle hask hm hds
  go_enter Tryz.func38, Tryz.ntmps38
  go_wp2_with fail
  go_loopg [15] 4 (fun mm y wr => ∃ i : Nat, mm + i = 4 ∧ y = .int .i64 (i : Int) ∧ i ≤ 3 ∧ w = wr)
  case atStart => exact ⟨0, rfl, rfl, by omega, rfl⟩
  case round =>
    obtain ⟨i, hm, rfl, hi, rfl⟩ := hrel
    have HM := Lib.hid hm; have HI := Lib.hid hi
    obtain ⟨zb, zoff, rfl, zbl, z0⟩ := HROW.out.c.at_ (show (zV [4, 4, 4, 4])[i]? = some (.int .i64 4) by
      rcases (by omega : i = 0 ∨ i = 1 ∨ i = 2 ∨ i = 3) with rfl | rfl | rfl | rfl <;> rfl)
    have hid : decide (((i : Nat) : Int) < 4) = true := decide_eq_true (by omega)
    have hip : ((i : Nat) : Int) < 4 := by omega
    have hip0 : (0 : Int) ≤ ((i : Nat) : Int) := by omega
    have HKEY := Lib.hid (keyI i (by omega))
    have hrl := run_mlook 106 4 (Maps.int_keyed Tryz.underlying3) Tryz.underlying106 (zeroB _) HMP.out _ _ HKEY.out
    by_cases h3 : i < 3
    · have hat : atF (bM (tkM ds)) (.int .i64 (i : Int)) (.bool false) = .bool true := by unfold atF; rw [bM_at, tkM_yes ((HD.out i).2 h3)]; rfl
      rw [hat] at hrl
      have H3 := Lib.hid h3
      clear hm hi hat h3
      go_wp2_with fail
      go_roundg (4 - (i + 1))
      case measure => have := HM.out; have := H3.out; omega
      case rel => exact ⟨i + 1, by have := HM.out; have := H3.out; omega, rfl, by have := H3.out; omega, rfl⟩
    · have hi3 : i = 3 := by omega
      have hat : atF (bM (tkM ds)) (.int .i64 (i : Int)) (.bool false) = .bool false := by unfold atF; rw [bM_at, tkM_no (fun h => h3 ((HD.out i).1 h))]; rfl
      rw [hat] at hrl
      have HI3 := Lib.hid hi3
      clear hm hi hat h3 hi3
      go_wp2_with fail
      go_ret2
      exact ⟨by rw [HI3.out]; rfl, rfl⟩
end Go.Proofs.YtobhjkfkdkiigaaGreatDoor

namespace Go.Proofs.YtobhjkfkdkiigaaGreatDoor
open Go.RowKit HP NP LY
abbrev sX : ByteArray := ⟨#[120]⟩
abbrev sY : ByteArray := ⟨#[121]⟩
abbrev sZ : ByteArray := ⟨#[122]⟩
theorem nm_xyz : NmOk [sX, sY, sZ] := ⟨by decide, by decide, by decide⟩
/-- what the join says -/
def joinG (S : NS) (kr kt : Nat) (ρ : Nat → Bool) : Bool := den S.l ρ kr && den S.l (fun i => ρ (tnB i)) kt
def JoinPost (B p q qn cb xb : Nat) (S : NS) (kr kt : Nat) (w : World) (e : Ending) (w' : World) : Prop :=
  ∃ (S' : NS) (o : RD), e = .returned (.tuple #[rdV o, .int .i64 0]) ∧ o.nms = [sX, sY, sZ] ∧ o.ds = [0, 1, 3] ∧ RelOk w' S' o ∧ Rl w' B p q qn cb xb S' ∧ Ks TX' B w w' ∧ GotOk S (joinG S kr kt) 303 S' o.k
theorem cloneSo_ok (w : World) (B : Nat) (hB : B ≤ w.heap.size) (a : Option Addr) (l : List ByteArray) (n c : Nat) (hn : l.length = n) (hl : n ≤ 16) (h0 : 0 < n) (hc : Cells w a (l.map Value.string)) :
    Calls Tryz.prog 30 #[.slice a n c] w fun e w' => Below w.heap.size w w' ∧ ∃ a' c', e = .returned (.slice a' n c') ∧ w'.ownsRow B 9 1 (.slice a' n c') n (l.map Value.string) := by
  obtain ⟨b, off, rfl, _, hh⟩ := hc (by rw [Ne, List.map_eq_nil_iff]; rintro rfl; simp at hn; omega)
  refine (Tryz.slices_Clone_string b off n c l w (by omega) (by omega) (getDS hh)).mono ?_
  rintro e w' ⟨v', rfl, hown, _, hb⟩
  rw [← hn, List.take_length, hn] at hown
  obtain ⟨ad, cp, rfl⟩ := own_shape hown
  exact ⟨hb, ad, cp, rfl, own_base hown hB⟩
theorem cloneIo_ok (w : World) (B : Nat) (hB : B ≤ w.heap.size) (a : Option Addr) (l : List Int) (n c : Nat) (hn : l.length = n) (hl : n ≤ 16) (h0 : 0 < n) (hc : Cells w a (zV l)) :
    Calls Tryz.prog 31 #[.slice a n c] w fun e w' => Below w.heap.size w w' ∧ ∃ a' c', e = .returned (.slice a' n c') ∧ w'.ownsRow B 3 1 (.slice a' n c') n (zV l) := by
  obtain ⟨b, off, rfl, _, hh⟩ := hc (by unfold zV; rw [Ne, List.map_eq_nil_iff]; rintro rfl; simp at hn; omega)
  refine (Tryz.slices_Clone_int b off n c l w (by omega) (by omega) (getDI hh)).mono ?_
  rintro e w' ⟨v', rfl, hown, _, hb⟩
  rw [← hn, List.take_length, hn] at hown
  obtain ⟨ad, cp, rfl⟩ := own_shape hown
  exact ⟨hb, ad, cp, rfl, own_base hown hB⟩
/-- what the join makes, as it lies, behind the world w1 -/
def JO (w1 wr : World) (gb : Nat) (u v : Value) (nms : List ByteArray) (ds : List Nat) : Prop :=
  Below w1.heap.size w1 wr ∧ Blk wr gb 48 #[u, v, .int .i64 0] ∧ wr.ownsRow w1.heap.size 9 1 u nms.length (nms.map Value.string) ∧ wr.ownsRow w1.heap.size 3 1 v ds.length (zV (zN ds)) ∧ w1.heap.size ≤ gb
theorem JO.below {w1 wr w' : World} {gb : Nat} {u v : Value} {nms : List ByteArray} {ds : List Nat} (h : JO w1 wr gb u v nms ds) (k : Below wr.heap.size wr w') : JO w1 w' gb u v nms ds :=
  ⟨h.1.trans (k.mono h.1.size), h.2.1.below k h.2.1.lt, own_below h.2.2.1 k, own_below h.2.2.2.1 k, h.2.2.2.2⟩
theorem JO.kb {w1 wr w' : World} {gb : Nat} {u v : Value} {nms : List ByteArray} {ds : List Nat} (h : JO w1 wr gb u v nms ds) (k : Kb (fun _ => false) wr w') (hb : Below w1.heap.size w1 w') : JO w1 w' gb u v nms ds :=
  ⟨hb, k _ _ _ h.2.1 rfl, own_kb h.2.2.1 k rfl, own_kb h.2.2.2.1 k rfl, h.2.2.2.2⟩
theorem setbox {w : World} {g : Nat} {a0 b0 c0 : Value} (h : Blk w g 48 #[a0, b0, c0]) (a b c : Value) :
    Kp TRl 0 w (((w.setCell ⟨g, 0, none⟩ a).setCell ⟨g, 1, none⟩ b).setCell ⟨g, 2, none⟩ c) ∧ Blk (((w.setCell ⟨g, 0, none⟩ a).setCell ⟨g, 1, none⟩ b).setCell ⟨g, 2, none⟩ c) g 48 #[a, b, c] :=
  ⟨((Kp.set (T := TRl) h rfl (Nat.zero_le _) 0 a).trans (Kp.set (h.set_ 0 a) rfl (Nat.zero_le _) 1 b)).trans (Kp.set ((h.set_ 0 a).set_ 1 b) rfl (Nat.zero_le _) 2 c), ((h.set_ 0 a).set_ 1 b).set_ 2 c⟩
theorem tkM_nil : tkM [] = fun _ => none := by funext k; unfold tkM; simp
theorem bmap_step {w' : World} {am d : Nat} {ds : List Nat} (hs : MapAt w' Tryz.prog 3 am (cntS (fun j => ((fun x => if x = d then some true else tkM ds x : Nat → Option Bool) j).isSome) 8) (setF (bM (tkM ds)) (.int .i64 (d : Int)) (.bool true))) : BMap w' am (tkM (ds ++ [d])) := by
  rw [← tkM_snoc]; unfold BMap; rw [← bM_set]; exact hs
theorem JO.map {w1 wr w' : World} {gb am n : Nat} {u v : Value} {nms : List ByteArray} {ds : List Nat} {F : Lit → Option Value} (h : JO w1 wr gb u v nms ds) (hm : MapAt wr Tryz.prog 3 am n F) (hg : wr.grownBy w' (some am)) (ha : w1.heap.size ≤ am) : JO w1 w' gb u v nms ds :=
  h.kb (MapAt.kb hm hg _) (h.1.grown hg h.1.size fun j hj => by injection hj with hj; omega)
/-- what lies low stays -/
theorem JO.low {w1 w7 wr w' : World} {gb : Nat} {u v : Value} {nms : List ByteArray} {ds : List Nat} (h : JO w1 w7 gb u v nms ds) (h' : JO w1 wr gb u v nms ds) (k : Below w7.heap.size wr w') : JO w1 w' gb u v nms ds :=
  ⟨h'.1.trans (k.mono h.1.size), h'.2.1.below k h.2.1.lt, own_keep h'.2.2.1 fun g hg => k.block g (h.2.2.1.lt g hg).2, own_keep h'.2.2.2.1 fun g hg => k.block g (h.2.2.2.1.lt g hg).2, h'.2.2.2.2⟩
theorem join_ix (w : World) (a : Option Addr) (c : Nat) (x : ByteArray) (i : Int) (hx : Lib.idxOfS [sX, sY] x = i) (hc : Cells w a ([sX, sY].map Value.string)) :
    Calls Tryz.prog 36 #[.slice a 2 c, .string x] w fun e w' => e = .returned (.int .i64 i) ∧ w = w' := by
  obtain ⟨b, off, rfl, _, hh⟩ := hc (by simp)
  refine (Tryz.slices_Index_string b off 2 c [sX, sY] x w (by decide) (by omega) (getDS hh)).mono ?_
  rintro e w' ⟨rfl, rfl⟩
  exact ⟨by rw [← hx]; rfl, rfl⟩
theorem join_has (w : World) (a : Option Addr) (c : Nat) (hc : Cells w a (zV (zN [0, 1]))) :
    Calls Tryz.prog 37 #[.slice a 2 c, .int .i64 1] w fun e w' => e = .returned (.bool true) ∧ w = w' := by
  obtain ⟨b, off, rfl, _, hh⟩ := hc (by simp [zV, zN])
  refine (Tryz.slices_Contains_int b off 2 c [0, 1] 1 w (by decide) (by omega) (getDI hh)).mono ?_
  rintro e w' ⟨rfl, rfl⟩
  exact ⟨by rfl, rfl⟩
theorem ix_Y : Lib.idxOfS [sX, sY] sY = 1 := by decide
theorem ix_Z : Lib.idxOfS [sX, sY] sZ = -1 := by decide
theorem VD_01 : ∀ v, VD [0, 1] v = true → VD [0, 1, 3] v = true := by
  intro v hv
  have h8 : v < 8 := by
    refine vs8 (ds := [0, 1]) (by decide) v ?_
    unfold VD at hv; simpa using hv
  have key : ∀ u : Fin 8, VD [0, 1] u.val = true → VD [0, 1, 3] u.val = true := by decide
  exact key ⟨v, h8⟩ hv
theorem VD_13 : ∀ v, VD [1, 3] v = true → VD [0, 1, 3] v = true := by
  intro v hv
  have h8 : v < 8 := by
    refine vs8 (ds := [1, 3]) (by decide) v ?_
    unfold VD at hv; simpa using hv
  have key : ∀ u : Fin 8, VD [1, 3] u.val = true → VD [0, 1, 3] u.val = true := by decide
  exact key ⟨v, h8⟩ hv
theorem turn_dep {g : (Nat → Bool) → Bool} (h : Dep (VD [2, 1]) g) : Dep (VD [1, 3]) (fun ρ => g (fun i => ρ (tnB i))) := fun _ _ he => h _ _ fun i hi => he _ (tnB_U i hi)
theorem str_info : (Tryz.prog.info? 9).map (fun i => (i.zero, i.size, i.bytes)) = some (some (.string ByteArray.empty), 1, 16) := by kernel_rfl
theorem Rl.sizes {W : World} {B p q qn cb xb : Nat} {S : NS} (h : Rl W B p q qn cb xb S) : ∃ zb zoff zc, W.cell? ⟨xb, 2, none⟩ = some (.slice (some ⟨zb, zoff, none⟩) 4 zc) ∧ xb < W.heap.size ∧ zb < W.heap.size ∧ W.cell? ⟨zb, zoff, none⟩ = some (.int .i64 4) ∧ W.cell? ⟨zb, zoff + 1, none⟩ = some (.int .i64 4) ∧ W.cell? ⟨zb, zoff + 2, none⟩ = some (.int .i64 4) := by
  obtain ⟨hcd, hxB, hsw, za, zc, ma, swp, hsp, hrow, hle, hask⟩ := h
  obtain ⟨zb, zoff, rfl, zbl, hh⟩ := hrow.c (by simp [zV])
  exact ⟨zb, zoff, zc, hsp.cell 2, hsp.lt, zbl, hh 0 _ rfl, hh 1 _ rfl, hh 2 _ rfl⟩
theorem cells_two {w : World} {a : Option Addr} {x y : Value} (h : Cells w a [x, y]) : ∃ b off, a = some ⟨b, off, none⟩ ∧ b < w.heap.size ∧ w.cell? ⟨b, off, none⟩ = some x ∧ w.cell? ⟨b, off + 1, none⟩ = some y := by
  obtain ⟨b, off, e, hl, hh⟩ := h (by simp)
  exact ⟨b, off, e, hl, hh 0 _ rfl, hh 1 _ rfl⟩
end Go.Proofs.YtobhjkfkdkiigaaGreatDoor

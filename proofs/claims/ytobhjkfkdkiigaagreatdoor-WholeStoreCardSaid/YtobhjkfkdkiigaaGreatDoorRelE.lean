/- Layer 9: relations in memory; may. 
 Layer 9: clean. 
 Layer 9: turn, of the domains that the law turns. -/
import Derived.Test.YtobhjkfkdkiigaaGreatDoorRelA
import Derived.Deep.RegionLaw
namespace Go.Proofs.YtobhjkfkdkiigaaGreatDoor
open Go.RowKit HP NP LY
/-- a relation as it lies in memory -/
structure RD where
  aa : Option Addr
  ac : Nat
  da : Option Addr
  dc : Nat
  n : Nat
  nms : List ByteArray
  ds : List Nat
  k : Nat
def rdCells (r : RD) : List Value := [.slice r.aa r.n r.ac, .slice r.da r.n r.dc, .int .i64 (r.k : Int)]
abbrev rdV (r : RD) : Value := .agg #[.slice r.aa r.n r.ac, .slice r.da r.n r.dc, .int .i64 (r.k : Int)]
def VD (ds : List Nat) (v : Nat) : Bool := (vsD ds).contains v
structure RelOk (w : World) (S : NS) (r : RD) : Prop where
  an : r.nms.length = r.n
  dn : r.ds.length = r.n
  ac : Cells w r.aa (r.nms.map Value.string)
  at_ : TB w r.aa 9
  dc : CellsT w r.da (zV (zN r.ds))
  nm : NmOk r.nms
  d4 : ∀ d ∈ r.ds, d < 4
  dd : r.ds.Nodup
  is : isB S.l r.k = true
  dep : Dep (VD r.ds) (fun ρ => den S.l ρ r.k)
theorem RelOk.kb {T : TypeId → Bool} {w w' : World} {S : NS} {r : RD} (h : RelOk w S r) (hk : Kb T w w') (h1 : T 9 = false) (h2 : T 3 = false) : RelOk w' S r :=
  ⟨h.an, h.dn, h.ac.kb h.at_ hk h1, h.at_.kb hk h1, h.dc.kb hk h2, h.nm, h.d4, h.dd, h.is, h.dep⟩
theorem RelOk.below {w w' : World} {S : NS} {r : RD} (h : RelOk w S r) (hb : Below w.heap.size w w') : RelOk w' S r := h.kb (T := fun _ => false) (Kp.of_below (B := 0) hb).kb rfl rfl
theorem nodup4 {ds : List Nat} (h4 : ∀ d ∈ ds, d < 4) (hn : ds.Nodup) : ds.length ≤ 4 := by
  have := List.Nodup.length_le_of_subset (l₂ := List.range 4) hn (fun d hd => List.mem_range.2 (h4 d hd))
  simpa using this
theorem RelOk.n4 {w : World} {S : NS} {r : RD} (h : RelOk w S r) : r.n ≤ 4 := by rw [← h.dn]; exact nodup4 h.d4 h.dd
theorem Cells.rd {w : World} {a : Option Addr} {es : List RD} (h : Cells w a (es.flatMap rdCells)) {i : Nat} {r : RD} (hx : es[i]? = some r) :
    ∃ b off, a = some ⟨b, off, none⟩ ∧ b < w.heap.size ∧ w.cell? ⟨b, off + i * 3, none⟩ = some (.slice r.aa r.n r.ac) ∧ w.cell? ⟨b, off + i * 3 + 1, none⟩ = some (.slice r.da r.n r.dc) ∧ w.cell? ⟨b, off + i * 3 + 2, none⟩ = some (.int .i64 (r.k : Int)) := by
  have g0 := flat_get rdCells 3 (fun _ => rfl) es i 0 r _ hx rfl
  have g1 := flat_get rdCells 3 (fun _ => rfl) es i 1 r _ hx rfl
  have g2 := flat_get rdCells 3 (fun _ => rfl) es i 2 r _ hx rfl
  obtain ⟨b, off, e, hb, hh⟩ := h (by intro h0; rw [h0] at g0; simp at g0)
  exact ⟨b, off, e, hb, hh _ _ g0, hh _ _ g1, hh _ _ g2⟩
theorem vs8 {ds : List Nat} (h : ∀ d ∈ ds, d < 4) : ∀ v ∈ vsD ds, v < 8 := fun v hv => by
  unfold vsD at hv
  obtain ⟨d, hd, hv⟩ := List.mem_flatMap.1 hv
  obtain ⟨b, hb, rfl⟩ := List.mem_iff_getElem.1 hv
  have h4 := h d hd
  rw [atN_len h4] at hb
  have := at_lt8 d h4 b hb
  rw [List.getD_eq_getElem?_getD, List.getElem?_eq_getElem (by rw [atN_len h4]; exact hb)] at this
  exact this
set_option maxRecDepth 100000 in
set_option maxHeartbeats 6400000 in
theorem rmay_ok (w : World) (B p q qn cb xb : Nat) (S : NS) (h : Rl w B p q qn cb xb S) (la : Option Addr) (lc : Nat) (L : List RD) (hL : L.length ≤ 2) (hc : Cells w la (L.flatMap rdCells)) (ht : TB w la 48) (hr : ∀ r ∈ L, RelOk w S r) :
    Calls Tryz.prog 32 #[.pointer (some ⟨xb, 0, none⟩), .slice la L.length lc] w fun e w' => e = .returned (.bool true) ∧ Rl w' B p q qn cb xb S ∧ Ks TX B w w' := by
  obtain ⟨N, hN⟩ : ∃ N, L.length = N := ⟨_, rfl⟩
  have H := Lib.hid h; have HC := Lib.hid hc; have HT := Lib.hid ht; have HR := Lib.hid hr; have HN := Lib.hid hN
  rw [hN] at hL ⊢
  obtain ⟨hcd, hxB, hsw, za, zc, ma, swp, hsp, hrow, hle, hask⟩ := h
  have c0 : w.cell? ⟨xb, 0, none⟩ = some (.pointer (some ⟨cb, 0, none⟩)) := hsp.cell 0
  have xl := hsp.lt
  clear hc ht hr hN hcd hxB hsw hsp hrow hle hask
  have hN0 : (0 : Int) ≤ ((N : Nat) : Int) := by omega
  go_enter Tryz.func32, Tryz.ntmps32
  go_wp2_with fail
  go_loopg [20] N (fun mm y wr => ∃ i : Nat, mm + i = N ∧ y = .int .i64 (i : Int) ∧ Rl wr B p q qn cb xb S ∧ Ks TX B w wr)
  case atStart => exact ⟨0, by omega, rfl, H.out, Ks.refl _ _ _⟩
  case round =>
    obtain ⟨i, hm, rfl, hrl, hks⟩ := hrel
    have HM := Lib.hid hm; have HRL := Lib.hid hrl; have HKS := Lib.hid hks
    clear hm hrl hks c0 xl
    by_cases hi : i < N
    · have hil : i < L.length := by rw [HN.out]; exact hi
      obtain ⟨r, hr⟩ : ∃ r, L[i]? = some r := ⟨_, List.getElem?_eq_getElem hil⟩
      have hro := HR.out r (List.mem_of_getElem? hr)
      have hcw : Cells wr la (L.flatMap rdCells) := HC.out.kb HT.out HKS.out.kb rfl
      obtain ⟨sb, soff, rfl, sbl, s0, s1, s2⟩ := hcw.rd hr
      have hid : decide (((i : Nat) : Int) < ((N : Nat) : Int)) = true := decide_eq_true (by omega)
      have hip : ((i : Nat) : Int) < ((N : Nat) : Int) := by omega
      have hip0 : (0 : Int) ≤ ((i : Nat) : Int) := by omega
      have HRO := Lib.hid (hro.kb HKS.out.kb rfl rfl); have HI := Lib.hid hi
      clear hr hro hcw hil hi
      go_wp2_with fail
      have hbx : Blk (wr.alloc (.cells (#[.slice r.aa r.n r.ac, .slice r.da r.n r.dc, .int .i64 (r.k : Int)]) 48)) wr.heap.size 48 #[.slice r.aa r.n r.ac, .slice r.da r.n r.dc, .int .i64 (r.k : Int)] := Blk.new_ _ _ _
      have hbb : Below wr.heap.size wr (wr.alloc (.cells (#[.slice r.aa r.n r.ac, .slice r.da r.n r.dc, .int .i64 (r.k : Int)]) 48)) := (Below.refl _ _).alloc (Nat.le_refl _) _
      generalize (wr.alloc (.cells (#[.slice r.aa r.n r.ac, .slice r.da r.n r.dc, .int .i64 (r.k : Int)]) 48)) = w6 at hbx hbb ⊢
      obtain ⟨g, hg⟩ : ∃ g, g = wr.heap.size := ⟨_, rfl⟩
      rw [← hg] at hbx ⊢
      have HBX := Lib.hid hbx; have HRL6 := Lib.hid (HRL.out.below hbb); have HRO6 := Lib.hid (HRO.out.below hbb); have HKS6 := Lib.hid (HKS.out.trans (Ks.below (T := TX) hbb HRL.out.cd.low))
      clear hbb hg s0 s1 s2 sbl HRO hbx
      obtain ⟨hcd, hxB, hsw, za6, zc6, ma6, swp6, hsp, hrow, hle, hask⟩ := HRL6.out
      have c0 : w6.cell? ⟨xb, 0, none⟩ = some (.pointer (some ⟨cb, 0, none⟩)) := hsp.cell 0
      have xl := hsp.lt
      have b0 : w6.cell? ⟨g, 0, none⟩ = some (.slice r.aa r.n r.ac) := HBX.out.cell 0
      have b1 : w6.cell? ⟨g, 1, none⟩ = some (.slice r.da r.n r.dc) := HBX.out.cell 1
      have b2 : w6.cell? ⟨g, 2, none⟩ = some (.int .i64 (r.k : Int)) := HBX.out.cell 2
      have bl := HBX.out.lt
      clear hcd hxB hsw hsp hrow hle hask
      have HKP : Hid (∀ W, Below w6.heap.size w6 W → W.cell? ⟨xb, 0, none⟩ = some (.pointer (some ⟨cb, 0, none⟩)) ∧ W.cell? ⟨g, 1, none⟩ = some (.slice r.da r.n r.dc)) := Lib.hid fun W hW => ⟨(hW.cell (p := ⟨xb, _, none⟩) xl).trans c0, (hW.cell (p := ⟨g, _, none⟩) bl).trans b1⟩
      have hd2 : Below w6.heap.size w6 w6.drew := (Below.refl _ _).drew
      have HK0 := Lib.hid (HKP.out _ hd2)
      have HE2 := Lib.hid hd2
      have hv := vars_ok w6.drew cb qn (HRL6.out.cd.code.below hd2) r.da r.ds r.dc (by rw [HRO6.out.dn]; exact HRO6.out.n4) HRO6.out.d4 HRO6.out.dd (HRO6.out.dc.below hd2).c
      rw [HRO6.out.dn] at hv
      have HV := Lib.hid hv
      clear hv c0 b0 b1 b2 hd2
      go_region_held3 (fun W => W.cell? ⟨xb, 0, none⟩ = some (.pointer (some ⟨cb, 0, none⟩)) ∧ W.cell? ⟨g, 1, none⟩ = some (.slice r.da r.n r.dc)) (first | with_reducible exact HK0.out | with_reducible exact HK3.out) (first | (go_at_call 42; ((with_reducible refine HV.out.mono ?_); rintro e w8 ⟨hb8, va, vc, rfl, hvc, _, _⟩; have HK3 := Lib.hid (HKP.out _ (HE2.out.trans (hb8.mono HE2.out.size))))))
      have hbb : Below w6.heap.size w6 w8 := HE2.out.trans (hb8.mono HE2.out.size)
      have HBX8 := Lib.hid (HBX.out.below hbb HBX.out.lt); have HRL8 := Lib.hid (HRL6.out.below hbb); have HRO8 := Lib.hid (HRO6.out.below hbb); have HKS8 := Lib.hid (HKS6.out.trans (Ks.below (T := TX) hbb HRL6.out.cd.low)); have HVC8 := Lib.hid hvc
      clear hbb hb8 hvc xl bl HBX HRL6 HRO6 HKS6 HK3 HK0 HKP HE2 HV
      have b0 : w8.cell? ⟨g, 0, none⟩ = some (.slice r.aa r.n r.ac) := HBX8.out.cell 0
      have bl := HBX8.out.lt
      have hnm := rnames_ok w8 r.aa r.nms r.ac HRO8.out.nm HRO8.out.ac
      rw [HRO8.out.an] at hnm
      have HNMS := Lib.hid hnm
      clear hnm
      go_wp2_with fail
      refine HNMS.out.mono ?_
      rintro e w9 ⟨rfl, hb9⟩
      have HBX9 := Lib.hid (HBX8.out.below hb9 HBX8.out.lt); have HRL9 := Lib.hid (HRL8.out.below hb9); have HRO9 := Lib.hid (HRO8.out.below hb9); have HKS9 := Lib.hid (HKS8.out.trans (Ks.below (T := TX) hb9 HRL8.out.cd.low)); have HVC9 := Lib.hid (HVC8.out.below hb9)
      clear b0 bl hb9 HBX8 HRL8 HRO8 HKS8 HNMS HVC8
      have b0 : w9.cell? ⟨g, 0, none⟩ = some (.slice r.aa r.n r.ac) := HBX9.out.cell 0
      have b1 : w9.cell? ⟨g, 1, none⟩ = some (.slice r.da r.n r.dc) := HBX9.out.cell 1
      have b2 : w9.cell? ⟨g, 2, none⟩ = some (.int .i64 (r.k : Int)) := HBX9.out.cell 2
      have bl := HBX9.out.lt
      go_wp2_with fail
      have hvl : (vsD r.ds).length ≤ 256 := by rw [vsD_len HRO9.out.d4, HRO9.out.dn]; have := HRO9.out.n4; omega
      refine (rwithin_ok w9 B p q qn cb xb S HRL9.out r.k HRO9.out.is (VD r.ds) HRO9.out.dep va vc (vsD r.ds) (vs8 HRO9.out.d4) (fun v hv => by unfold VD at hv; simpa using hv) hvl HVC9.out).mono ?_
      rintro e w10 ⟨rfl, hrl, hks⟩
      have HRL10 := Lib.hid hrl; have HKS10 := Lib.hid (HKS9.out.trans hks)
      clear hrl hks b0 b1 b2 bl
      go_wp2_with fail
      go_roundg (N - (i + 1))
      case measure => have := HM.out; have := HI.out; omega
      case rel => exact ⟨i + 1, by have := HM.out; have := HI.out; omega, rfl, HRL10.out, HKS10.out⟩
    · have hi2 : i = N := by have := HM.out; omega
      have hid : decide (((i : Nat) : Int) < ((N : Nat) : Int)) = false := decide_eq_false (by omega)
      clear hi
      go_wp2_with fail
      go_ret
      exact ⟨rfl, HRL.out, HKS.out⟩
end Go.Proofs.YtobhjkfkdkiigaaGreatDoor

namespace Go.Proofs.YtobhjkfkdkiigaaGreatDoor
open Go.RowKit HP NP LY
/-- a set of few variables -/
theorem countP_le_of {V : Nat → Bool} {vs : List Nat} (n : Nat) (h : ∀ v, V v = true → v ∈ vs) : (List.range n).countP V ≤ vs.length := by
  rw [List.countP_eq_length_filter]
  exact List.Nodup.length_le_of_subset (List.nodup_range.filter _) (fun v hv => h v (List.mem_filter.1 hv).2)
theorem rk_VD {ds : List Nat} (h4 : ∀ d ∈ ds, d < 4) : rk (VD ds) 8 0 ≤ 2 * ds.length := by
  unfold rk
  have := countP_le_of (V := fun i => decide (0 ≤ i) && VD ds i) (vs := vsD ds) 8 (fun v hv => by
    rw [Bool.and_eq_true] at hv
    have := hv.2
    unfold VD at this; simpa using this)
  rwa [vsD_len h4] at this
theorem NP.GotOk.trans {S S1 S2 : NS} {g g1 : (Nat → Bool) → Bool} {n m k1 k2 : Nat} (h1 : GotOk S g1 n S1 k1) (h2 : GotOk S1 g m S2 k2) : GotOk S g (n + m) S2 k2 :=
  ⟨h2.wf, h1.ext.trans h2.ext, h2.den, by have := h1.cnt; have := h2.cnt; omega, fun j => Nat.le_trans (h2.pin j) (h1.pin j), h2.sw.trans h1.sw⟩
theorem NP.GotOk.mono {S S' : NS} {g : (Nat → Bool) → Bool} {n m k : Nat} (h : GotOk S g n S' k) (hm : n ≤ m) : GotOk S g m S' k := ⟨h.wf, h.ext, h.den, Nat.le_trans h.cnt (by omega), h.pin, h.sw⟩
theorem Rl.got {w w' : World} {B p q qn cb xb : Nat} {S S' : NS} {g : (Nat → Bool) → Bool} {n k : Nat} (h : Rl w B p q qn cb xb S) (hc : Cd w' B p q qn cb S') (hk : Kp TO B w w') (hg : GotOk S g n S' k) : Rl w' B p q qn cb xb S' := h.op hc hk hg.ext hg.sw
abbrev TRl : TypeId → Bool := fun t => t == 48
theorem Rl.kpr {w w' : World} {B p q qn cb xb : Nat} {S : NS} (h : Rl w B p q qn cb xb S) (hk : Kp TRl 0 w w') : Rl w' B p q qn cb xb S := by
  obtain ⟨a, b, c, za, zc, ma, swp, h1, h2, h3, h4⟩ := h
  refine ⟨⟨a.sto.kp hk rfl rfl rfl rfl rfl, a.ops.kb hk.kb rfl rfl, hk.blk a.qu rfl, a.code.kb hk.kb rfl rfl rfl rfl, a.v8, Nat.le_trans a.low hk.size⟩, b, c, za, zc, ma, swp, hk.blk h1 rfl, h2.kb hk.kb rfl, h3, fun mb e => ⟨(h4 mb e).1, fun hs => ?_⟩⟩
  obtain ⟨m, ha⟩ := (h4 mb e).2 hs
  exact ⟨m, ha.kp hk⟩
def CleanPost (B p q qn cb xb : Nat) (S : NS) (r : RD) (g : (Nat → Bool) → Bool) (n : Nat) (w : World) (e : Ending) (w' : World) : Prop :=
  ∃ S' k, e = .returned (.tuple #[rdV { r with k := k }, .int .i64 0]) ∧ Rl w' B p q qn cb xb S' ∧ Kp TO B w w' ∧ GotOk S g n S' k
set_option maxRecDepth 100000 in
set_option maxHeartbeats 6400000 in
theorem clean_ok (w : World) (B p q qn cb xb : Nat) (S : NS) (h : Rl w B p q qn cb xb S) (r : RD) (hro : RelOk w S r) (h3 : r.n ≤ 3) (hr : NP.cnt S.l + r.n * 67 ≤ S.budget) :
    Calls Tryz.prog 41 #[.pointer (some ⟨xb, 0, none⟩), rdV r] w (CleanPost B p q qn cb xb S r (fun ρ => den S.l ρ r.k) (r.n * 67) w) := by
  have H := Lib.hid h; have HRO := Lib.hid hro; have HRR := Lib.hid hr
  clear h hro hr
  obtain ⟨aa, ac, da, dc, N, nms, ds, k⟩ := r
  have hN0 : (0 : Int) ≤ ((N : Nat) : Int) := by omega
  have HW := Lib.hid H.out.cd.sto.wf
  have hb0 : Below w.heap.size w ((w.alloc (.cells #[.slice aa N ac, .slice da N dc, .int .i64 (k : Int)] 48)).alloc (.cells #[.slice none 0 0, .slice none 0 0, .int .i64 0] 48)) := ((Below.refl _ _).alloc (Nat.le_refl _) _).alloc (by simp) _
  have hx0 : Blk ((w.alloc (.cells #[.slice aa N ac, .slice da N dc, .int .i64 (k : Int)] 48)).alloc (.cells #[.slice none 0 0, .slice none 0 0, .int .i64 0] 48)) w.heap.size 48 #[.slice aa N ac, .slice da N dc, .int .i64 (k : Int)] := (Blk.new_ _ _ _).alloc_ _
  have hy0 : Blk ((w.alloc (.cells #[.slice aa N ac, .slice da N dc, .int .i64 (k : Int)] 48)).alloc (.cells #[.slice none 0 0, .slice none 0 0, .int .i64 0] 48)) (w.heap.size + 1) 48 #[.slice none 0 0, .slice none 0 0, .int .i64 0] := by
    have := Blk.new_ (w.alloc (.cells #[.slice aa N ac, .slice da N dc, .int .i64 (k : Int)] 48)) 48 (#[.slice none 0 0, .slice none 0 0, .int .i64 0])
    simpa using this
  have HB0 := Lib.hid hb0; have HX0 := Lib.hid hx0; have HY0 := Lib.hid hy0
  clear hb0 hx0 hy0
  go_enter Tryz.func41, Tryz.ntmps41
  go_upto_region 1 with (fail)
  generalize ((w.alloc (.cells #[.slice aa N ac, .slice da N dc, .int .i64 (k : Int)] 48)).alloc (.cells #[.slice none 0 0, .slice none 0 0, .int .i64 0] 48)) = w1 at HB0 HX0 HY0 ⊢
  obtain ⟨g, hg⟩ : ∃ g, g = w.heap.size := ⟨_, rfl⟩
  rw [← hg] at HX0 HY0 ⊢
  have HG := Lib.hid hg
  have c1 : w1.cell? ⟨g, 1, none⟩ = some (.slice da N dc) := HX0.out.cell 1
  have xl := HX0.out.lt
  clear hg
  go_wp2_with fail
  clear c1 xl
  go_loopg [13] N (fun mm y wr => ∃ (i kk : Nat) (S' : NS), mm + i = N ∧ y = .int .i64 (i : Int) ∧ Rl wr B p q qn cb xb S' ∧ GotOk S (fun ρ => den S.l ρ k) (i * 67) S' kk ∧ Kp TO B w wr ∧ Blk wr g 48 #[.slice aa N ac, .slice da N dc, .int .i64 (kk : Int)] ∧ Blk wr (g + 1) 48 #[.slice none 0 0, .slice none 0 0, .int .i64 0])
  case atStart => exact ⟨0, k, S, by omega, rfl, H.out.below HB0.out, by rw [Nat.zero_mul]; exact ⟨HW.out, Ext.refl _, ⟨HRO.out.is, fun _ => rfl⟩, by omega, fun _ => Nat.le_refl _, rfl⟩, Kp.of_below HB0.out, HX0.out, HY0.out⟩
  case round =>
    obtain ⟨i, kk, S', hm, rfl, hrl, hgo, hkp, hx, hy⟩ := hrel
    have HM := Lib.hid hm; have HRL := Lib.hid hrl; have HGO := Lib.hid hgo; have HKP := Lib.hid hkp; have HX := Lib.hid hx; have HY := Lib.hid hy
    clear hm hrl hgo hkp hx hy
    by_cases hi : i < N
    · have hil : i < ds.length := by rw [HRO.out.dn]; exact hi
      obtain ⟨d, hd⟩ : ∃ d, ds[i]? = some d := ⟨_, List.getElem?_eq_getElem hil⟩
      have hd4 : d < 4 := HRO.out.d4 d (List.mem_of_getElem? hd)
      obtain ⟨sb, soff, rfl, sbl, s0⟩ := (HRO.out.dc.kb HKP.out.kb rfl).c.at_ (show (zV (zN ds))[i]? = some (.int .i64 (d : Int)) by simp [zV, zN, hd])
      obtain ⟨hcd, hxB, hsw, za, zc, ma, swp, hsp, hrow, hle, hask⟩ := HRL.out
      obtain ⟨zb, zoff, rfl, zbl, z0⟩ := hrow.c.at_ (show (zV [4, 4, 4, 4])[d]? = some (.int .i64 4) by
        rcases (by omega : d = 0 ∨ d = 1 ∨ d = 2 ∨ d = 3) with rfl | rfl | rfl | rfl <;> rfl)
      have hid : decide (((i : Nat) : Int) < ((N : Nat) : Int)) = true := decide_eq_true (by omega)
      have hip : ((i : Nat) : Int) < ((N : Nat) : Int) := by omega
      have hip0 : (0 : Int) ≤ ((i : Nat) : Int) := by omega
      have hd0 : (0 : Int) ≤ ((d : Nat) : Int) := by omega
      have hdi4 : ((d : Nat) : Int) < 4 := by omega
      have c0 : wr.cell? ⟨xb, 0, none⟩ = some (.pointer (some ⟨cb, 0, none⟩)) := hsp.cell 0
      have c2 : wr.cell? ⟨xb, 2, none⟩ = some (.slice (some ⟨zb, zoff, none⟩) 4 zc) := hsp.cell 2
      have xl := hsp.lt
      have hroom : NP.cnt S'.l + 4 + 63 ≤ S'.budget := by
        have h1 := HGO.out.cnt; have h2 := HRR.out; have h3 := HGO.out.ext.budget
        have h5 : (i + 1) * 67 ≤ N * 67 := Nat.mul_le_mul_right _ (by omega)
        omega
      have hrg := range_ok wr.drew B p q qn cb S' (hcd.below (Below.refl _ _).drew) d hd4 (by omega)
      have HKF : Hid (∀ W, Kp TO B wr W → (W.cell? ⟨xb, 0, none⟩ = some (.pointer (some ⟨cb, 0, none⟩)) ∧ W.cell? ⟨xb, 2, none⟩ = some (.slice (some ⟨zb, zoff, none⟩) 4 zc)) ∧ W.cell? ⟨zb, zoff + d, none⟩ = some (.int .i64 4)) := Lib.hid fun W hW => by
        have hs := hW.blk hsp rfl
        refine ⟨⟨hs.cell 0, hs.cell 2⟩, ?_⟩
        exact ((hrow.kb hW.kb rfl).c.at_ (show (zV [4, 4, 4, 4])[d]? = some (.int .i64 4) by
          rcases (by omega : d = 0 ∨ d = 1 ∨ d = 2 ∨ d = 3) with rfl | rfl | rfl | rfl <;> rfl)).elim fun b' h => h.elim fun o' h => by
            obtain ⟨e, _, h⟩ := h
            injection e with e
            injection e with e1 e2 _
            subst e1 e2
            exact h
      have HK0 := Lib.hid (HKF.out _ (Kp.of_below (Below.refl wr.heap.size wr).drew))
      have HRG := Lib.hid hrg; have HROOM := Lib.hid hroom; have HI := Lib.hid hi; have HD := Lib.hid hd; have HD4 := Lib.hid hd4
      clear hil hd hcd hxB hsw hsp hrow hle hask hrg hroom hi hd4
      have hw3 : IntKind.i64.wrap 3 = 3 := by decide
      go_wp2_with fail
      go_region_held3 (fun W => (W.cell? ⟨xb, 0, none⟩ = some (.pointer (some ⟨cb, 0, none⟩)) ∧ W.cell? ⟨xb, 2, none⟩ = some (.slice (some ⟨zb, zoff, none⟩) 4 zc)) ∧ W.cell? ⟨zb, zoff + d, none⟩ = some (.int .i64 4)) (first | with_reducible exact HK0.out | with_reducible exact HK3.out) (first | (go_at_call 65; ((with_reducible refine HRG.out.mono ?_); rintro e w8 ⟨S1, k1, rfl, hcd1, hkp1, hgo1⟩; have HK3 := Lib.hid (HKF.out _ ((Kp.of_below (Below.refl wr.heap.size wr).drew).trans hkp1)))))
      have hkp01 : Kp TO B wr w8 := (Kp.of_below (Below.refl wr.heap.size wr).drew).trans hkp1
      have HRL8 := Lib.hid (HRL.out.got hcd1 hkp01 hgo1); have HX8 := Lib.hid (hkp01.blk HX.out rfl); have HY8 := Lib.hid (hkp01.blk HY.out rfl); have HKP8 := Lib.hid (HKP.out.trans hkp01); have HGO1 := Lib.hid hgo1
      have HGK : Hid (Den S1 kk (fun ρ => den S.l ρ k)) := Lib.hid (HGO.out.den.ext hgo1.ext HGO.out.wf hgo1.wf)
      clear hcd1 hkp1 hgo1 hkp01 c0 c2 xl zbl z0 sbl s0 HX HY HKP HK0 HK3 HKF HRG hw3 hd0 hdi4
      obtain ⟨hcd, hxB, hsw, za8, zc8, ma8, swp8, hsp, hrow, hle, hask⟩ := HRL8.out
      have c1 : w8.cell? ⟨xb, 1, none⟩ = some (.pointer (some ⟨qn, 0, none⟩)) := hsp.cell 1
      have xl := hsp.lt
      have g2 : w8.cell? ⟨g, 2, none⟩ = some (.int .i64 (kk : Int)) := HX8.out.cell 2
      have gf := HX8.out.frozen 2
      have gl := HX8.out.lt
      have hroom2 : NP.cnt S1.l + 63 < S1.budget + 1 := by have h1 := HROOM.out; have h2 := HGO1.out.cnt; have h3 := HGO1.out.ext.budget; omega
      have hpow : 2 ^ rk (VD ds) 8 0 ≤ 63 + 1 := by
        have h1 : rk (VD ds) 8 0 ≤ 2 * ds.length := rk_VD HRO.out.d4
        have h2 : ds.length = N := HRO.out.dn
        exact Nat.pow_le_pow_right (by decide) (by omega : rk (VD ds) 8 0 ≤ 6)
      have hand := cand_ok w8.drew B p q qn cb S1 (hcd.below (Below.refl _ _).drew) kk k1 (fun ρ => den S.l ρ k) (fun _ => true) HGK.out HGO1.out.den (VD ds) HRO.out.dep (fun _ _ _ => rfl) 63 hpow hroom2
      have HAND := Lib.hid hand
      have HQU := Lib.hid (qops_ok w8.drew qn p q (hcd.qu.below (Below.refl w8.heap.size w8).drew hcd.qu.lt))
      clear hcd hxB hsw hsp hrow hle hask hroom2 hpow hand
      go_wp2_with fail
      go_region_law (first | (go_simp; go_at_call 20; (with_reducible refine HQU.out.mono ?_); rintro e w9 ⟨rfl, rfl⟩) | (go_simp; go_at_call 40; (with_reducible refine HAND.out.mono ?_); rintro e w9 ⟨S2, k2, rfl, hcd2, hkp2, hgo2⟩; have hx9 : Blk w9 g 48 #[.slice aa N ac, .slice (some ⟨sb, soff, none⟩) N dc, .int .i64 (kk : Int)] := hkp2.blk HX8.out.drew_ rfl; have q2 : w9.cell? ⟨g, 2, none⟩ = some (.int .i64 (kk : Int)) := hx9.cell 2; have qf := hx9.frozen 2; have ql := hx9.lt; clear hx9))
      all_goals
        have hkp82 : Kp TO B w8 w9 := (Kp.of_below (Below.refl w8.heap.size w8).drew).trans hkp2
        have HRL9 := Lib.hid (HRL8.out.got hcd2 hkp82 hgo2); have HX9 := Lib.hid (hkp82.blk HX8.out rfl); have HY9 := Lib.hid (hkp82.blk HY8.out rfl); have HKP9 := Lib.hid (HKP8.out.trans hkp82); have HGO2 := Lib.hid hgo2
        clear hcd2 hkp2 hgo2 hkp82 q2 qf ql c1 xl g2 gf gl
        go_wp2_with fail
        go_roundg (N - (i + 1))
        case measure => have := HM.out; have := HI.out; omega
        case rel => 
          have hx := HX9.out
          have hset := Kp.set (T := TRl) hx rfl (Nat.zero_le _) 2 (.int .i64 (k2 : Int))
          have hir : ∀ h : g < w.heap.size, TF TO B w g := fun h => absurd h (by rw [HG.out]; exact Nat.lt_irrefl _)
          have e1 : (fun ρ => den S.l ρ k && true) = fun ρ => den S.l ρ k := by funext ρ; rw [Bool.and_true]
          have hgo2 := HGO2.out
          rw [e1] at hgo2
          exact ⟨i + 1, k2, S2, by have := HM.out; have := HI.out; omega, rfl, HRL9.out.kpr hset, (HGO.out.trans (HGO1.out.trans hgo2)).mono (by omega), HKP9.out.setCell hir _, hx.set_ 2 _, HY9.out.far (by simp) _⟩
    · have hi2 : i = N := by have := HM.out; omega
      have hid : decide (((i : Nat) : Int) < ((N : Nat) : Int)) = false := decide_eq_false (by omega)
      have d0 : wr.cell? ⟨g, 0, none⟩ = some (.slice aa N ac) := HX.out.cell 0
      have d1 : wr.cell? ⟨g, 1, none⟩ = some (.slice da N dc) := HX.out.cell 1
      have d2 : wr.cell? ⟨g, 2, none⟩ = some (.int .i64 (kk : Int)) := HX.out.cell 2
      have e0 : wr.cell? ⟨g + 1, 0, none⟩ = some (.slice none 0 0) := HY.out.cell 0
      have e1 : wr.cell? ⟨g + 1, 1, none⟩ = some (.slice none 0 0) := HY.out.cell 1
      have e2 : wr.cell? ⟨g + 1, 2, none⟩ = some (.int .i64 0) := HY.out.cell 2
      have f0 := HY.out.frozen 0
      have f1 := HY.out.frozen 1
      have f2 := HY.out.frozen 2
      have el := HY.out.lt
      have gl := HX.out.lt
      clear hi
      go_wp2_with fail
      refine bodyPost_ret (v := .tuple #[rdV ⟨aa, ac, da, dc, N, nms, ds, kk⟩, .int .i64 0]) ?_ rfl ?_
      · rw [results_cell_tmp rfl]; go_simp
      · have h0 := HY.out
        have h1 := h0.set_ 0 (.slice aa N ac)
        have h2 := h1.set_ 1 (.slice da N dc)
        have hk9 := ((Kp.set (T := TRl) h0 rfl (Nat.zero_le _) 0 (.slice aa N ac)).trans (Kp.set h1 rfl (Nat.zero_le _) 1 (.slice da N dc))).trans (Kp.set h2 rfl (Nat.zero_le _) 2 (.int .i64 (kk : Int)))
        have hir : ∀ h : g + 1 < w.heap.size, TF TO B w (g + 1) := fun h => absurd h (by rw [HG.out]; omega)
        exact ⟨S', kk, rfl, HRL.out.kpr hk9, (((HKP.out.setCell hir _).setCell hir _).setCell hir _), by rw [← hi2]; exact HGO.out⟩
end Go.Proofs.YtobhjkfkdkiigaaGreatDoor

namespace Go.Proofs.YtobhjkfkdkiigaaGreatDoor
open Go.RowKit HP NP LY
theorem equal21_ok (w : World) (a b : Option Addr) (ca cb : Nat) (hc : Cells w a (zV [2, 1])) (hd : Cells w b (zV [1, 3])) :
    Calls Tryz.prog 63 #[.slice a 2 ca, .slice b 2 cb] w fun e w' => e = .returned (.bool false) ∧ ∃ n, w' = w.drewN n := by
  obtain ⟨b1, o1, rfl, _, h1⟩ := hc (by simp [zV])
  obtain ⟨b2, o2, rfl, _, h2⟩ := hd (by simp [zV])
  have key : ∀ (x y : Int) (j : Nat) (b o : Nat), j < [x, y].length → (∀ i v, (zV [x, y])[i]? = some v → w.cell? ⟨b, o + i, none⟩ = some v) → w.cell? ⟨b, o + j, none⟩ = some (.int .i64 ([x, y].getD j 0)) := fun x y j b o hj hh => by
    rcases j with _ | _ | j
    · exact hh 0 _ rfl
    · exact hh 1 _ rfl
    · simp at hj; omega
  exact (Tryz.slices_Equal_int b1 o1 2 ca b2 o2 2 cb [2, 1] [1, 3] w (by decide) (by decide) (by omega) (by omega) (fun j hj => key 2 1 j b1 o1 hj h1) (fun j hj => key 1 3 j b2 o2 hj h2)).mono fun e w' h => h
/-- where the variables of C and B go: to B's and D's -/
def tnB : Nat → Nat := byM (bm [6, 4, 3, 1] [3, 1, 7, 5] 4)
theorem tnB_U : ∀ v, VD [2, 1] v = true → VD [1, 3] (tnB v) = true := by
  intro v hv
  have h8 : v < 8 := by
    refine vs8 (ds := [2, 1]) (by decide) v ?_
    unfold VD at hv; simpa using hv
  have key : ∀ u : Fin 8, VD [2, 1] u.val = true → VD [1, 3] (tnB u.val) = true := by decide
  exact key ⟨v, h8⟩ hv
theorem rk_21 : rk (VD [2, 1]) 8 0 = 4 := by decide
theorem rk_13 : rk (VD [1, 3]) 8 0 = 4 := by decide
def TurnPost (B p q qn cb xb : Nat) (S : NS) (g : (Nat → Bool) → Bool) (n : Nat) (w : World) (e : Ending) (w' : World) : Prop :=
  ∃ (S' : NS) (k : Nat), e = .returned (.tuple #[.int .i64 (k : Int), .int .i64 0]) ∧ Rl w' B p q qn cb xb S' ∧ Kp TO B w w' ∧ GotOk S g n S' k
theorem Kp.st {T : TypeId → Bool} {B : Nat} {a b c : World} (h : Below a.heap.size a b) (k : Kp T B b c) : Kp T B a c := (Kp.of_below h).trans k
set_option maxRecDepth 100000 in
set_option maxHeartbeats 6400000 in
theorem turn_ok (w : World) (B p q qn cb xb : Nat) (S : NS) (h : Rl w B p q qn cb xb S) (k : Nat) (hk : isB S.l k = true) (hd : Dep (VD [2, 1]) (fun ρ => den S.l ρ k)) (fa ta : Option Addr) (fc tc : Nat) (hf : CellsT w fa (zV [2, 1])) (ht : CellsT w ta (zV [1, 3])) (hr : NP.cnt S.l + 240 < S.budget + 1) :
    Calls Tryz.prog 39 #[.pointer (some ⟨xb, 0, none⟩), .int .i64 (k : Int), .slice fa 2 fc, .slice ta 2 tc] w (TurnPost B p q qn cb xb S (fun ρ => den S.l (fun i => ρ (tnB i)) k) 240 w) := by
  have H := Lib.hid h; have HK := Lib.hid hk; have HD := Lib.hid hd; have HF := Lib.hid hf; have HT := Lib.hid ht; have HR := Lib.hid hr
  clear h hk hd hf ht hr
  have HEQ := Lib.hid (equal21_ok w fa ta fc tc HF.out.c HT.out.c)
  go_enter Tryz.func39, Tryz.ntmps39
  go_wp2_with fail
  refine HEQ.out.mono ?_
  rintro e w1 ⟨rfl, n, rfl⟩
  have hb1 : Below w.heap.size w (w.drewN n) := bdN' w n
  generalize w.drewN n = w1 at hb1 ⊢
  have HRL1 := Lib.hid (H.out.below hb1); have HF1 := Lib.hid (HF.out.below hb1); have HT1 := Lib.hid (HT.out.below hb1); have HB1 := Lib.hid hb1
  clear hb1 HF HT HEQ
  obtain ⟨hcd, hxB, hsw, za, zc, ma, swp, hsp, hrow, hle, hask⟩ := HRL1.out
  have c0 : w1.cell? ⟨xb, 0, none⟩ = some (.pointer (some ⟨cb, 0, none⟩)) := hsp.cell 0
  have xl := hsp.lt
  clear hcd hxB hsw hsp hrow hle hask
  go_wp2_with fail
  refine (vars_ok w1 cb qn HRL1.out.cd.code fa [2, 1] fc (by decide) (by decide) (by decide) HF1.out.c).mono ?_
  rintro e w2 ⟨hb2, va, vc, rfl, hv, _, _⟩
  have HRL2 := Lib.hid (HRL1.out.below hb2); have HT2 := Lib.hid (HT1.out.below hb2); have HB2 := Lib.hid (HB1.out.trans (hb2.mono HB1.out.size)); have HV2 := Lib.hid hv
  clear hb2 hv c0 xl HRL1 HF1 HT1 HB1
  obtain ⟨hcd, hxB, hsw, za2, zc2, ma2, swp2, hsp, hrow, hle, hask⟩ := HRL2.out
  have c0 : w2.cell? ⟨xb, 0, none⟩ = some (.pointer (some ⟨cb, 0, none⟩)) := hsp.cell 0
  have xl := hsp.lt
  clear hcd hxB hsw hsp hrow hle hask
  go_wp2_with fail
  refine (vars_ok w2 cb qn HRL2.out.cd.code ta [1, 3] tc (by decide) (by decide) (by decide) HT2.out.c).mono ?_
  rintro e w3 ⟨hb3, ua, uc, rfl, hu, _, _⟩
  have HRL3 := Lib.hid (HRL2.out.below hb3); have HB3 := Lib.hid (HB2.out.trans (hb3.mono HB2.out.size)); have HV3 := Lib.hid (HV2.out.below hb3); have HU3 := Lib.hid hu
  clear hb3 hu c0 xl HRL2 HT2 HB2 HV2
  obtain ⟨hcd, hxB, hsw, za3, zc3, ma3, swp3, hsp, hrow, hle, hask⟩ := HRL3.out
  have c1 : w3.cell? ⟨xb, 1, none⟩ = some (.pointer (some ⟨qn, 0, none⟩)) := hsp.cell 1
  have xl := hsp.lt
  have hrn := qrn_ok w3 B p q qn S hcd.sto hcd.ops hcd.qu hcd.low k HK.out va ua [6, 4, 3, 1] [3, 1, 7, 5] vc uc (by decide) rfl (HV3.out.c) (HU3.out.c) (by simp [vOk, hcd.v8]) (by simp [vOk, hcd.v8]) (by decide) (VD [2, 1]) (VD [1, 3]) HD.out tnB_U 16 240 (by rw [hcd.v8, rk_13]; decide) (by rw [hcd.v8, rk_21]; decide)
  have HRN := Lib.hid hrn
  have HCD3 := Lib.hid hcd
  clear hcd hxB hsw hsp hrow hle hask hrn
  go_wp2_with fail
  refine HRN.out.mono ?_
  rintro e w4 hp
  obtain ⟨S', k', rfl, hcd4, hkp, hgo⟩ := OpPost.yes hp HCD3.out HR.out
  have HRL4 := Lib.hid (HRL3.out.got hcd4 hkp hgo); have HKP4 := Lib.hid (Kp.st HB3.out hkp); have HGO := Lib.hid hgo
  clear hp hcd4 hkp hgo
  go_wp2_with fail
  go_ret2
  exact ⟨S', k', rfl, HRL4.out, HKP4.out, HGO.out⟩
end Go.Proofs.YtobhjkfkdkiigaaGreatDoor

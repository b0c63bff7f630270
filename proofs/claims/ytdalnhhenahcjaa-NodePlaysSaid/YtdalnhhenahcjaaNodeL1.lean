/- NodeOnce: the walk. -/
import Derived.Test.YtdalnhhenahcjaaNodeM
namespace Go.Proofs.Ytdalnhhenahcjaa
open Go.RowKit HP NP
theorem new4 : okNew 4 200 = true := by decide
theorem Sto.low {w w' : World} {B p : Nat} {S : NS} (h : Sto w B p S) (hb : Below w.heap.size w w') : Sto w' B p S := h.below hb
theorem Blk.cells_ {w : World} {b : Nat} {t : TypeId} {cs : Array Value} (h : Blk w b t cs) : Cells w (some ⟨b, 0, none⟩) cs.toList := fun _ => ⟨b, 0, rfl, h.lt, fun i v hv => by rw [Nat.zero_add, h.cell]; simpa using hv⟩
theorem vlen (n : Int) : (valsL n).length ≤ maxLen := by show 4 ≤ maxLen; unfold maxLen; omega
/-- one bit of a slice of bools -/
theorem BoolsAt.at_ {w : World} {B : Nat} {a : Option Addr} {l : List Bool} (h : BoolsAt w B a l) {n : Nat} (hn : n < l.length) : ∃ b off, a = some ⟨b, off, none⟩ ∧ b < w.heap.size ∧ w.cell? ⟨b, off + n, none⟩ = some (.bool (l.getD n false)) :=
  h.1.at_ (by rw [List.getElem?_map, List.getElem?_eq_getElem hn, List.getD_eq_getElem?_getD, List.getElem?_eq_getElem hn]; rfl)
set_option maxRecDepth 100000 in
set_option maxHeartbeats 4000000 in
theorem nodeOnce_walk (w : World) (a : Int) (_wa : (Lit.int .i64 a).wf = true) (b : Int) (_wb : (Lit.int .i64 b).wf = true) : Calls Try.prog 9 #[.int .i64 a, .int .i64 b] w (Fine w) := by
  go_enter Try.func9, Try.ntmps9
  go_wp2_with fail
  refine (nnewc w w.heap.size (Nat.le_refl _) 4 200 new4).mono ?_
  rintro e w1 ⟨p, rfl, hs1, hb1, _⟩
  have HS1 := Lib.hid (show Sto w1 w.heap.size p (newS 4 200) from hs1); have HB1 := Lib.hid hb1
  clear hs1 hb1
  go_wp2_with fail
  refine (bits_ok w1 a).mono ?_
  rintro e w2 ⟨xa, xc, rfl, hx2, hb2⟩
  have HX2 := Lib.hid hx2; have HS2 := Lib.hid (HS1.out.below hb2); have HB2 := Lib.hid (HB1.out.trans (hb2.mono HB1.out.size))
  clear hx2 hb2
  go_wp2_with fail
  refine (bits_ok w2 b).mono ?_
  rintro e w3 ⟨ya, yc, rfl, hy3, hb3⟩
  have HX3 := Lib.hid (HX2.out.below hb3); have HY3 := Lib.hid hy3; have HS3 := Lib.hid (HS2.out.below hb3); have HB3 := Lib.hid (HB2.out.trans (hb3.mono HB2.out.size))
  clear hy3 hb3
  go_wp2_with fail
  refine (table_ok w.heap.size p xa w1.heap.size xc (bitsL a) (bitsL_len a) 4 0 w3 (newS 4 200) 0 rfl (by decide) HS3.out HB3.out.size rfl (by decide) HX3.out).mono ?_
  rintro e w4 ⟨S1, k, rfl, hs4, hk4, ht1⟩
  have HS4 := Lib.hid hs4; have HK4 := Lib.hid hk4; have HT1 := Lib.hid ht1
  have HB4 := Lib.hid (HB3.out.trans (hk4.low HB3.out.size))
  clear hs4 hk4 ht1
  go_wp2_with fail
  refine (table_ok w.heap.size p ya w2.heap.size yc (bitsL b) (bitsL_len b) 4 0 w4 S1 0 rfl (by decide) HS4.out HB4.out.size HT1.out.ext.vars (by rw [HT1.out.ext.budget]; have := HT1.out.cnt; rw [newS_cnt] at this; show _ ≤ 200 + 1; omega) (HY3.out.kb HK4.out.kb rfl)).mono ?_
  rintro e w5 ⟨S2, j, rfl, hs5, hk5, ht2⟩
  have HS5 := Lib.hid hs5; have HT2 := Lib.hid ht2
  have HX5 := Lib.hid ((HX3.out.kb HK4.out.kb rfl).kb hk5.kb rfl); have HY5 := Lib.hid ((HY3.out.kb HK4.out.kb rfl).kb hk5.kb rfl)
  have HB5 := Lib.hid (HB4.out.trans (hk5.low HB4.out.size))
  clear hs5 hk5 ht2
  go_wp2_with fail
  go_loopg [13] 16 (fun m x wr => ∃ n : Nat, m + n = 16 ∧ x = .int .i64 (n : Int) ∧ Below w5.heap.size w5 wr)
  case atStart => exact ⟨0, rfl, rfl, Below.refl _ _⟩
  case round =>
    obtain ⟨n, hm, rfl, hb⟩ := hrel
    have HM := Lib.hid hm; have HB := Lib.hid hb
    clear hm hb
    by_cases hn : n < 16
    · have HE1 := Lib.hid (tab_ev HT1.out HT2.out.wf HT2.out.ext n hn)
      have HE2 := Lib.hid (tab_ev HT2.out HT2.out.wf (Ext.refl _) n hn)
      go_wp2_with fail
      refine (values_ok wr (n : Int)).mono ?_
      rintro e w6 ⟨vb, rfl, hv6, _, hb6⟩
      have HV6 := Lib.hid hv6; have HB6 := Lib.hid (HB.out.trans (hb6.mono HB.out.size))
      clear hv6 hb6
      go_wp2_with fail
      refine (neval_ok w6 w.heap.size p S2 (HS5.out.below HB6.out) (k : Int) (some ⟨vb, 0, none⟩) (valsL (n : Int)) 4 (vlen _) HV6.out.cells_).mono ?_
      rintro e w7 ⟨rfl, hb7⟩
      rw [HE1.out.1, HE1.out.2]
      have HB7 := Lib.hid (HB6.out.trans (hb7.mono HB6.out.size))
      clear hb7
      go_wp2_with fail
      refine (values_ok w7 (n : Int)).mono ?_
      rintro e w8 ⟨vb2, rfl, hv8, _, hb8⟩
      have HV8 := Lib.hid hv8; have HB8 := Lib.hid (HB7.out.trans (hb8.mono HB7.out.size))
      clear hv8 hb8
      go_wp2_with fail
      refine (neval_ok w8 w.heap.size p S2 (HS5.out.below HB8.out) (j : Int) (some ⟨vb2, 0, none⟩) (valsL (n : Int)) 4 (vlen _) HV8.out.cells_).mono ?_
      rintro e w9 ⟨rfl, hb9⟩
      rw [HE2.out.1, HE2.out.2]
      have HB9 := Lib.hid (HB8.out.trans (hb9.mono HB8.out.size))
      clear hb9
      obtain ⟨xb, xo, rfl, hxl, hxc⟩ := (HX5.out.below HB9.out).at_ (n := n) (by rw [bitsL_len]; exact hn)
      obtain ⟨yb, yo, rfl, hyl, hyc⟩ := (HY5.out.below HB9.out).at_ (n := n) (by rw [bitsL_len]; exact hn)
      go_wp2_with fail
      go_roundg (16 - (n + 1))
      case measure => have := HM.out; omega
      case rel => exact ⟨n + 1, by have := HM.out; omega, by go_num, HB9.out⟩
    · obtain ⟨q, hq⟩ : ∃ q : Bool, ((k : Int) == (j : Int)) = q := ⟨_, rfl⟩
      have hq2 : (bits .and .i64 a 65535 == bits .and .i64 b 65535) = q := by
        rw [← hq, Bool.eq_iff_iff, beq_iff_eq, beq_iff_eq, ← bits_same, ← tab_one (bitsL_len a) (bitsL_len b) HT1.out HT2.out]
        omega
      have hge : 16 ≤ n := by omega
      clear hn
      go_wp2_with fail
      have HBZ := Lib.hid (HB5.out.trans (HB.out.mono HB5.out.size))
      refine (awake03 wr).mono ?_
      rintro e w6 ⟨rfl, hb6⟩
      go_wp2_with fail
      go_ret
      exact ⟨rfl, HBZ.out.trans (hb6.mono HBZ.out.size)⟩
end Go.Proofs.Ytdalnhhenahcjaa

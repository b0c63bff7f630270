/- Layer 5: a node made upon two that say what is asked (mk_step), Ite and Or below a variable; set; Restrict. -/
import Derived.Test.YtffkehefkmdadaaQuanA
namespace Go.Proofs.Ytffkehefkmdadaa
open Go.RowKit HP NP
theorem mk_step (w : World) (B p q : Nat) (S : NS) (h : Sto w B p S) (ho : OpsM w B p q S) (hB : B ≤ w.heap.size) (v lo hi : Nat) (gl gh : (Nat → Bool) → Bool) (hl : Den S lo gl) (hh : Den S hi gh) (fl : From gl (v + 1)) (fh : From gh (v + 1)) (hv : v < S.vars) :
    Calls Try.prog 65 #[.pointer (some ⟨p, 0, none⟩), .int .i64 (v : Int), .int .i64 (lo : Int), .int .i64 (hi : Int)] w (OpPost B p q S (fun ρ => if ρ v then gh ρ else gl ρ) 1 w) := by
  refine (nmk_ok w B p S h hB (v : Int) (lo : Int) (hi : Int)).mono ?_
  rintro e w' ⟨rfl, hs, hk⟩
  rcases mkS_any h.wf hv hl.is hh.is (hl.ge h.wf fl hv) (hh.ge h.wf fh hv) with ⟨S', k, h5, h6, h7⟩ | ⟨h5, h6⟩
  · rw [h5] at hs ⊢
    exact ⟨S', hs, (ho.kb hk.kb rfl rfl).ext h6.ext h.wf h6.wf h7, hk.mono to_tn (Nat.le_refl _), .inl ⟨k, rfl, ⟨h6.wf, h6.ext, ⟨h6.is, fun ρ => by rw [h6.says, hl.says, hh.says]⟩, h6.cnt, h6.pin, h7⟩⟩⟩
  · rw [h5] at hs ⊢
    exact ⟨S, hs, ho.kb hk.kb rfl rfl, hk.mono to_tn (Nat.le_refl _), .inr ⟨rfl, ⟨h.wf, Ext.refl _, by omega, fun _ => Nat.le_refl _, rfl⟩⟩⟩
set_option maxRecDepth 100000 in
set_option maxHeartbeats 1600000 in
theorem oiteU_ok (w : World) (B p q u f : Nat) (S : NS) (h : Sto w B p S) (ho : OpsM w B p q S) (hB : B ≤ w.heap.size) (a b c : Nat) (ga gb gc : (Nat → Bool) → Bool) (ha : Den S a ga) (hb : Den S b gb) (hc : Den S c gc) (hua : u ≤ (nd S.l a).v) (hub : u ≤ (nd S.l b).v) (huc : u ≤ (nd S.l c).v) (hf : S.vars ≤ u + f) (n : Nat) (hn : 2 ^ f ≤ n + 1) :
    Calls Try.prog 28 #[.pointer (some ⟨q, 0, none⟩), .int .i64 (a : Int), .int .i64 (b : Int), .int .i64 (c : Int)] w (OpPost B p q S (fun ρ => if ga ρ then gb ρ else gc ρ) n w) := by
  have HS := Lib.hid h; have HO := Lib.hid ho; have HA := Lib.hid ha; have HBB := Lib.hid hb; have HC := Lib.hid hc; have HN := Lib.hid hn; have HUA := Lib.hid hua; have HUB := Lib.hid hub; have HUC := Lib.hid huc; have HF := Lib.hid hf
  have hql := ho.lt
  have hsw := ho.2.1
  have hbl := (Below.refl w.heap.size w).alloc (Nat.le_refl _) (.cells #[.int .i64 (a : Int), .int .i64 (b : Int), .int .i64 (c : Int)] 3)
  have HM := Lib.hid (may_ok (w.alloc (.cells #[.int .i64 (a : Int), .int .i64 (b : Int), .int .i64 (c : Int)] 3)) B p q S (h.below hbl) (ho.below hbl) (by simp; omega) (some ⟨w.heap.size, 0, none⟩) [(a : Int), (b : Int), (c : Int)] 3 (by simp) (Cells.lit w _ _) (by
    intro k hk
    simp at hk
    rcases hk with rfl | rfl | rfl
    · rw [isK_nat]; exact ha.is
    · rw [isK_nat]; exact hb.is
    · rw [isK_nat]; exact hc.is))
  have HBL := Lib.hid hbl
  clear h ho ha hb hc hn hbl hua hub huc hf
  go_enter Try.func28, Try.ntmps28
  go_wp2_with fail
  refine HM.out.mono ?_
  rintro e w1 ⟨rfl, g, C, ho1, hk1⟩
  have HK1 : Hid (Kp TO B w w1) := Lib.hid ((Kp.of_below HBL.out).trans (hk1.mono to_tc (Nat.le_refl _)))
  have HS1 := Lib.hid ((HS.out.below HBL.out).kp hk1 rfl rfl rfl rfl rfl)
  have HO1 := Lib.hid ho1
  have hB1 : B ≤ w1.heap.size := by have := HK1.out.size; omega
  clear ho1 hk1
  go_wp2_with fail
  refine (ite_ok B p q g f w1 S C a b c u HS1.out HO1.out hsw hB1 HA.out.is HBB.out.is HC.out.is HUA.out HUB.out HUC.out HF.out).mono ?_
  rintro e w2 ⟨S2, C2, hs2, ho2, hk2, hr⟩
  have HS2 := Lib.hid hs2; have HO2 := Lib.hid ho2; have HK2 := Lib.hid (HK1.out.trans hk2)
  clear hs2 ho2 hk2
  rcases hr with ⟨k, rfl, hok⟩ | ⟨rfl, hno⟩
  · have HR := Lib.hid hok
    clear hok
    go_wp2_with fail
    go_ret2
    exact ⟨S2, HS2.out, HO2.out.m (by rw [HR.out.sw]; exact hsw), HK2.out, .inl ⟨k, rfl, HR.out.got HS.out.wf HA.out HBB.out HC.out (fun _ => rfl) HN.out⟩⟩
  · have HR := Lib.hid hno
    clear hno
    go_wp2_with fail
    go_ret2
    exact ⟨S2, HS2.out, HO2.out.m (by rw [HR.out.sw]; exact hsw), HK2.out, .inr ⟨rfl, HR.out.got HN.out⟩⟩
set_option maxHeartbeats 800000 in
theorem oorU_ok (w : World) (B p q u f : Nat) (S : NS) (h : Sto w B p S) (ho : OpsM w B p q S) (hB : B ≤ w.heap.size) (a b : Nat) (ga gb : (Nat → Bool) → Bool) (ha : Den S a ga) (hb : Den S b gb) (hua : From ga u) (hub : From gb u) (hu : u ≤ S.vars) (hf : S.vars ≤ u + f) (n : Nat) (hn : 2 ^ f ≤ n + 1) :
    Calls Try.prog 25 #[.pointer (some ⟨q, 0, none⟩), .int .i64 (a : Int), .int .i64 (b : Int)] w (OpPost B p q S (fun ρ => ga ρ || gb ρ) n w) := by
  have HI := Lib.hid (oiteU_ok w B p q u f S h ho hB a 1 b _ _ _ ha (Den.one h.wf) hb (ha.ge h.wf hua hu) (by rw [h.wf.v1]; exact hu) (hb.ge h.wf hub hu) hf n hn)
  clear h ho ha hb hn hf hu hua hub
  go_enter Try.func25, Try.ntmps25
  go_wp2_with fail
  refine HI.out.mono ?_
  intro e w1 hr
  have HR := Lib.hid (hr.cong (g' := fun ρ => ga ρ || gb ρ) (fun ρ => by cases ga ρ <;> rfl) (Nat.le_refl _))
  obtain ⟨k, x, rfl⟩ := opRet hr
  clear hr
  go_wp2_with fail
  go_ret2
  exact HR.out
/-! ### Restrict -/
theorem call_rs (args : Array Value) (w : World) : (callFunc 74 args).run Try.prog w = .ok (.enter 74 args) w := MuLone.run_callFunc_enter Try.func74 (by kernel_rfl) rfl args w
/-- the boxes that Restrict's function holds -/
structure RsI (p q qn h : Nat) (v : Nat) (b : Bool) (w : World) : Prop where
  qu : QuBlk w qn p q
  b0 : Blk w h 71 #[.pointer (some ⟨qn, 0, none⟩)]
  b1 : Blk w (h + 1) 3 #[.int .i64 (v : Int)]
  b2 : Blk w (h + 1 + 1) 4 #[.bool b]
theorem RsI.km {p q qn h v : Nat} {b : Bool} {B m : Nat} {w w' : World} (hi : RsI p q qn h v b w) (hm : IsMap w m) (hk : Km TO B m w w') : RsI p q qn h v b w' := ⟨hk.blk hm hi.qu rfl, hk.blk hm hi.b0 rfl, hk.blk hm hi.b1 rfl, hk.blk hm hi.b2 rfl⟩
theorem OpPost.same {B p q : Nat} {S : NS} {g : (Nat → Bool) → Bool} {n k : Nat} {w : World} (h : Sto w B p S) (ho : OpsM w B p q S) (hd : Den S k g) {e : Ending} (he : e = .returned (.tuple #[.int .i64 (k : Int), .int .i64 0])) : OpPost B p q S g n w e w :=
  ⟨S, h, ho, Kp.refl _ _ _, .inl ⟨k, he, GotOk.same h.wf hd⟩⟩
set_option maxRecDepth 100000 in
set_option maxHeartbeats 1600000 in
theorem rs1_ok (B p q qn h v : Nat) (b : Bool) (S0 : NS) (hW0 : Wf S0) (w : World) (S : NS) (k low high f : Nat) (_hf : S0.vars ≤ (nd S0.l k).v + (f + 1)) (hi : RsI p q qn h v b w) (hs : Sto w B p S) (ho : OpsM w B p q S) (hB : B ≤ w.heap.size) (he : Ext S0 S) (h2 : 2 ≤ k) (hk : isB S0.l k = true)
    (hl : Den S low (rsT S0 v b (nd S0.l k).low)) (hh : Den S high (rsT S0 v b (nd S0.l k).high)) :
    Calls Try.prog 74 #[.int .i64 ((nd S0.l k).v : Int), .int .i64 (low : Int), .int .i64 (high : Int), .pointer (some ⟨h + 1, 0, none⟩), .pointer (some ⟨h, 0, none⟩), .pointer (some ⟨h + 1 + 1, 0, none⟩)] w (OpPost B p q S (rsT S0 v b k) 1 w) := by
  obtain ⟨hv1, _, hlo, hhi, hvl, hvh⟩ := hW0.kid k h2 hk
  have c0 : w.cell? ⟨h, 0, none⟩ = some (.pointer (some ⟨qn, 0, none⟩)) := hi.b0.cell 0
  have c1 : w.cell? ⟨h + 1, 0, none⟩ = some (.int .i64 (v : Int)) := hi.b1.cell 0
  have c2 : w.cell? ⟨h + 1 + 1, 0, none⟩ = some (.bool b) := hi.b2.cell 0
  have cq : w.cell? ⟨qn, 1, none⟩ = some (.pointer (some ⟨p, 0, none⟩)) := hi.qu.cell 1
  have l0 := hi.b0.lt; have l1 := hi.b1.lt; have l2 := hi.b2.lt; have lq := hi.qu.lt
  have HRT := Lib.hid (rsT_node hW0 v b h2 hk)
  have HS := Lib.hid hs; have HO := Lib.hid ho; have HL := Lib.hid hl; have HH := Lib.hid hh
  by_cases hvv : (nd S0.l k).v = v
  · have hne : (((nd S0.l k).v : Int) != (v : Int)) = false := by rw [hvv]; simp
    have HVV := Lib.hid hvv
    clear hi hs ho he h2 hk hl hh hv1 hlo hhi hvl hvh hvv hW0
    cases b with
    | true =>
      go_enter Try.func74, Try.ntmps74
      go_wp2_with fail
      go_ret2
      exact OpPost.same HS.out HO.out (HH.out.cong (fun ρ => by rw [HRT.out ρ, if_pos HVV.out]; simp)) rfl
    | false =>
      go_enter Try.func74, Try.ntmps74
      go_wp2_with fail
      go_ret2
      exact OpPost.same HS.out HO.out (HL.out.cong (fun ρ => by rw [HRT.out ρ, if_pos HVV.out]; simp)) rfl
  · have hne : (((nd S0.l k).v : Int) != (v : Int)) = true := by rw [bne_iff_ne]; omega
    have HMK := Lib.hid (mk_step w B p q S hs ho hB (nd S0.l k).v low high _ _ hl hh ((rsT_from hW0 v b hlo).mono (by omega)) ((rsT_from hW0 v b hhi).mono (by omega)) (by rw [he.vars]; exact hv1))
    have HVV := Lib.hid hvv
    clear hi hs ho he h2 hk hl hh hv1 hlo hhi hvl hvh hvv hW0
    go_enter Try.func74, Try.ntmps74
    go_wp2_with fail
    refine HMK.out.mono ?_
    intro e w1 hr
    have HR := Lib.hid (hr.cong (g' := rsT S0 v b k) (fun ρ => by rw [HRT.out ρ, if_neg HVV.out]) (Nat.le_refl _))
    obtain ⟨x, y, rfl⟩ := opRet hr
    clear hr
    go_wp2_with fail
    go_ret2
    exact HR.out
end Go.Proofs.Ytffkehefkmdadaa

/- Layer 5: the contract of Rename. -/
import Derived.Test.YtobhjkfkdkiigaaGreatDoorQuanE
import Derived.StillTailTactics
namespace Go.Proofs.YtobhjkfkdkiigaaGreatDoor
open Go.RowKit HP NP
theorem call_rn (args : Array Value) (w : World) : (callFunc 90 args).run Tryz.prog w = .ok (.enter 90 args) w := MuLone.run_callFunc_enter Tryz.func90 (by kernel_rfl) rfl args w
theorem IMap.km {T : TypeId → Bool} {B c : Nat} {w w' : World} {b L : Nat} {m : Nat → Option Nat} (h : IMap w b L m) (hne : b ≠ c) (hk : Km T B c w w') : IMap w' b L m := by
  refine MapAt.keep h (hk.block b (MapAt.lt h) ?_)
  rintro (⟨_, cs, t, f, h2, _⟩ | e)
  · obtain ⟨es, c2, hm⟩ := MapAt.block h
    rw [hm] at h2; cases h2
  · exact hne e
/-- the boxes that Rename's function holds -/
structure RnI (p q qn h gx b1 L mb : Nat) (m : Nat → Option Nat) (w : World) : Prop where
  qu : QuBlk w qn p q
  b0 : Blk w h 30 #[.pointer (some ⟨qn, 0, none⟩)]
  bx : Blk w gx 147 #[.map (some b1)]
  gs : IMap w b1 L m
  ne : b1 ≠ mb
theorem RnI.km {p q qn h gx b1 L mb : Nat} {m : Nat → Option Nat} {B : Nat} {w w' : World} (hi : RnI p q qn h gx b1 L mb m w) (hm : IsMap w mb) (hk : Km TO B mb w w') : RnI p q qn h gx b1 L mb m w' := ⟨hk.blk hm hi.qu rfl, hk.blk hm hi.b0 rfl, hk.blk hm hi.bx rfl, hi.gs.km hi.ne hk, hi.ne⟩
def byM (m : Nat → Option Nat) (v : Nat) : Nat := (m v).getD v
set_option maxRecDepth 100000 in
set_option maxHeartbeats 1600000 in
theorem rn1_ok (B p q qn h gx b1 L mb c : Nat) (V U : Nat → Bool) (m : Nat → Option Nat) (S0 : NS) (hW0 : Wf S0) (hc : 2 ^ rk U S0.vars 0 ≤ c) (hU : ∀ v, V v = true → U (byM m v) = true) (hm : ∀ v n, m v = some n → n < S0.vars) (w : World) (S : NS) (k low high : Nat) (hd : Dep V (fun ρ => den S0.l ρ k)) (hi : RnI p q qn h gx b1 L mb m w) (hs : Sto w B p S) (ho : OpsM w B p q S) (hB : B ≤ w.heap.size) (he : Ext S0 S) (h2 : 2 ≤ k) (hk : isB S0.l k = true)
    (hl : Den S low (rnT S0 (byM m) (nd S0.l k).low)) (hh : Den S high (rnT S0 (byM m) (nd S0.l k).high)) :
    Calls Tryz.prog 90 #[.int .i64 ((nd S0.l k).v : Int), .int .i64 (low : Int), .int .i64 (high : Int), .pointer (some ⟨gx, 0, none⟩), .pointer (some ⟨h, 0, none⟩)] w (OpPost B p q S (rnT S0 (byM m) k) c w) := by
  obtain ⟨hv1, _, hlo, hhi, hvl, hvh⟩ := hW0.kid k h2 hk
  have hv256 := hW0.v256
  have c0 : w.cell? ⟨h, 0, none⟩ = some (.pointer (some ⟨qn, 0, none⟩)) := hi.b0.cell 0
  have cx : w.cell? ⟨gx, 0, none⟩ = some (.map (some b1)) := hi.bx.cell 0
  have cq0 : w.cell? ⟨qn, 0, none⟩ = some (.pointer (some ⟨q, 0, none⟩)) := hi.qu.cell 0
  have cq1 : w.cell? ⟨qn, 1, none⟩ = some (.pointer (some ⟨p, 0, none⟩)) := hi.qu.cell 1
  have l0 := hi.b0.lt; have lx := hi.bx.lt; have lq := hi.qu.lt
  have HGS := Lib.hid hi.gs
  have HKEY := Lib.hid (keyI (nd S0.l k).v (by omega))
  have hbv : byM m (nd S0.l k).v < S0.vars := by
    unfold byM
    cases e : m (nd S0.l k).v with
    | none => exact hv1
    | some n => exact hm _ n e
  have HMK := Lib.hid (mk_step w B p q S hs ho hB (byM m (nd S0.l k).v) 0 1 _ _ (Den.zero hs.wf) (Den.one hs.wf) (fun _ _ _ => rfl) (fun _ _ _ => rfl) (by rw [he.vars]; exact hbv))
  have HRN := Lib.hid (rnT_node hW0 (byM m) h2 hk)
  have HUV := Lib.hid (hU _ (hd.top hW0 hk hv1))
  have HDL : Hid (Dep U (rnT S0 (byM m) (nd S0.l k).low)) := Lib.hid (rnT_dep (hd.kids hW0 h2 hk).1 hU)
  have HDH : Hid (Dep U (rnT S0 (byM m) (nd S0.l k).high)) := Lib.hid (rnT_dep (hd.kids hW0 h2 hk).2 hU)
  have HL := Lib.hid hl; have HH := Lib.hid hh; have HC := Lib.hid hc; have HE := Lib.hid he; have HWS := Lib.hid hs.wf
  have HBW := Lib.hid hB
  have hcb : ∀ w1, Kp TO B w w1 → w1.cell? ⟨h, 0, none⟩ = some (.pointer (some ⟨qn, 0, none⟩)) ∧ w1.cell? ⟨qn, 0, none⟩ = some (.pointer (some ⟨q, 0, none⟩)) ∧ h < w1.heap.size ∧ qn < w1.heap.size := fun w1 hk1 => by
    have a := hk1.kb _ _ _ hi.b0 rfl
    have b := hk1.kb _ _ _ hi.qu rfl
    exact ⟨Blk.cell a 0, Blk.cell b 0, Blk.lt a, Blk.lt b⟩
  have HCB := Lib.hid hcb
  obtain ⟨v, hv⟩ : ∃ v, v = (nd S0.l k).v := ⟨_, rfl⟩
  rw [← hv] at HMK HKEY HRN HUV ⊢
  obtain ⟨bv, hbe⟩ : ∃ bv, bv = byM m v := ⟨_, rfl⟩
  rw [← hbe] at HMK HRN HUV
  obtain ⟨there, hth⟩ : ∃ there, there = (m v).isSome := ⟨_, rfl⟩
  have hat : atF (intM m) (.int .i64 (v : Int)) (.int .i64 0) = (if there then .int .i64 (bv : Int) else .int .i64 0) := by
    unfold atF; rw [intM_at, hth, hbe]; unfold byM; cases m v <;> rfl
  have his : (intM m (.int .i64 (v : Int))).isSome = there := by rw [intM_at, hth]; cases m v <;> rfl
  have hvb : there = false → v = bv := fun e => by
    rw [hth] at e
    rw [hbe]
    unfold byM
    cases h : m v with
    | none => rfl
    | some n => rw [h] at e; cases e
  have HAT := Lib.hid hat; have HIS := Lib.hid his; have HVB := Lib.hid hvb
  clear hat his hvb hth hbe hv hi hs ho hB he h2 hk hl hh hv1 hlo hhi hvl hvh hW0 hc hm hv256 hbv hcb hd hU
  cases there
  case' false =>
    obtain rfl := HVB.out rfl
  all_goals
    go_enter Tryz.func90, Tryz.ntmps90
    go_wp2_with (at_lookup; refine wpList_mlook_ok rfl (.tmp 15) (.tmp 16) 147 rfl 3 (Maps.int_keyed Tryz.underlying3) Tryz.underlying147 (zeroI _) rfl HGS.out _ _ rfl HKEY.out ?_; rw [HAT.out, HIS.out])
    refine HMK.out.mono ?_
    rintro e w1 ⟨S1, hs1, ho1, hk1, hr⟩
    obtain ⟨d0, d1, m0, m1⟩ := HCB.out w1 hk1
    have HS1 := Lib.hid hs1; have HO1 := Lib.hid ho1; have HK1 := Lib.hid hk1
    clear hs1 ho1 hk1
    rcases hr with ⟨x, rfl, hg⟩ | ⟨rfl, hg⟩
    · have HG1 := Lib.hid hg
      clear hg
      have HIT := Lib.hid (oite_ok w1 B p q S1 HS1.out HO1.out (Nat.le_trans HBW.out HK1.out.size) x high low _ _ _ HG1.out.den (HH.out.ext HG1.out.ext HWS.out HG1.out.wf) (HL.out.ext HG1.out.ext HWS.out HG1.out.wf) U (Dep.ite (Dep.var HUV.out) (Dep.const _ _) (Dep.const _ _)) HDH.out HDL.out (c - 1) (by rw [HG1.out.ext.vars, HE.out.vars]; have := HC.out; have := Nat.two_pow_pos (rk U S0.vars 0); omega))
      go_wp2_with fail
      refine HIT.out.mono ?_
      rintro e w2 ⟨S2, hs2, ho2, hk2, hr⟩
      have HS2 := Lib.hid hs2; have HO2 := Lib.hid ho2; have HK2 := Lib.hid (HK1.out.trans hk2)
      clear hs2 ho2 hk2
      have hcp : 1 ≤ c := by have := HC.out; have := Nat.two_pow_pos (rk U S0.vars 0); omega
      rcases hr with ⟨y, rfl, hg⟩ | ⟨rfl, hg⟩
      · have HG : Hid (GotOk S (rnT S0 (byM m) k) c S2 y) := Lib.hid ⟨hg.wf, HG1.out.ext.trans hg.ext, hg.den.cong fun ρ => by rw [HRN.out ρ]; simp, by have := HG1.out.cnt; have := hg.cnt; omega, fun j => Nat.le_trans (hg.pin j) (HG1.out.pin j), hg.sw.trans HG1.out.sw⟩
        clear hg hcp
        go_wp2_with fail
        go_ret2
        exact ⟨S2, HS2.out, HO2.out, HK2.out, .inl ⟨y, rfl, HG.out⟩⟩
      · have HG : Hid (GotNo S c S2) := Lib.hid ⟨hg.wf, HG1.out.ext.trans hg.ext, by have h1 := HG1.out.cnt; have h3 := hg.room; rw [HG1.out.ext.budget] at h3; omega, fun j => Nat.le_trans (hg.pin j) (HG1.out.pin j), hg.sw.trans HG1.out.sw⟩
        clear hg hcp
        go_wp2_with fail
        go_ret2
        exact ⟨S2, HS2.out, HO2.out, HK2.out, .inr ⟨rfl, HG.out⟩⟩
    · have HG : Hid (GotNo S c S1) := Lib.hid (hg.mono (by have := HC.out; have := Nat.two_pow_pos (rk U S0.vars 0); omega))
      clear hg
      go_wp2_with fail
      go_ret2
      exact ⟨S1, HS1.out, HO1.out, HK1.out, .inr ⟨rfl, HG.out⟩⟩
/-- what takes the place of what, of the first k of two lists -/
def bm (vs us : List Int) : Nat → Nat → Option Nat
  | 0 => fun _ => none
  | k + 1 => updM (bm vs us k) (vs.getD k 0).toNat (us.getD k 0).toNat
theorem ZSet.len {w : World} {b n : Nat} {s : Int → Bool} (h : ZSet w b n s) : (Builtin.len_ #[106] 3 #[.map (some b)]).run Tryz.prog w = .ok (.int .i64 (n : Int)) w := by
  obtain ⟨D, hown, hs, _⟩ := h
  rw [← hs]
  exact hown.len Tryz.underlying106 _
theorem nodup_rev {l : List Int} (h : l.Nodup) : l.reverse.Nodup := by
  unfold List.Nodup at h ⊢
  rw [List.pairwise_reverse]
  exact h.imp fun h => h.symm
theorem bm_lt {vs us : List Int} {L : Nat} (hu : ∀ z ∈ us, 0 ≤ z ∧ z < (L : Int)) : ∀ k, k ≤ us.length → ∀ v n, bm vs us k v = some n → n < L
  | 0, _, v, n, h => by cases h
  | k + 1, hk, v, n, h => by
    unfold bm updM at h
    split at h
    · injection h with h
      have hg : us.getD k 0 ∈ us := by
        rw [List.getD_eq_getElem?_getD, List.getElem?_eq_getElem (by omega)]
        exact List.getElem_mem _
      have := hu _ hg
      omega
    · exact bm_lt hu k (by omega) v n h
theorem bm_none {vs us : List Int} : ∀ k, k ≤ vs.length → ∀ v, (∀ j, j < k → (vs.getD j 0).toNat ≠ v) → bm vs us k v = none
  | 0, _, v, _ => rfl
  | k + 1, hk, v, h => by
    unfold bm updM
    rw [if_neg (fun e => h k (by omega) e.symm)]
    exact bm_none k (by omega) v fun j hj => h j (by omega)
set_option maxRecDepth 100000 in
set_option maxHeartbeats 3200000 in
theorem qrn_ok (w : World) (B p q qn : Nat) (S : NS) (hs : Sto w B p S) (ho : OpsM w B p q S) (hq : QuBlk w qn p q) (hB : B ≤ w.heap.size) (k : Nat) (hk : isB S.l k = true) (va ua : Option Addr) (vs us : List Int) (c c' : Nat) (hvl : vs.length ≤ 256) (hul : us.length = vs.length) (hv : Cells w va (vs.map fun k => .int .i64 k)) (hu : Cells w ua (us.map fun k => .int .i64 k)) (hvo : vs.all (vOk S) = true) (huo : us.all (vOk S) = true) (hnd : vs.Nodup) (V U : Nat → Bool) (hd : Dep V (fun ρ => den S.l ρ k)) (hU : ∀ v, V v = true → U (byM (bm vs us vs.length) v) = true) (C n : Nat) (hC : 2 ^ rk U S.vars 0 ≤ C) (hn : tot (fun _ => C) (rk V S.vars 0) ≤ n) :
    Calls Tryz.prog 64 #[.pointer (some ⟨qn, 0, none⟩), .int .i64 (k : Int), .slice va vs.length c, .slice ua us.length c'] w (OpPost B p q S (rnT S (byM (bm vs us vs.length)) k) n w) := by
  have hwf : ∀ z ∈ vs, (Lit.int .i64 z).wf = true := fun z hz => by
    have := List.all_eq_true.1 hvo z hz
    unfold vOk at this
    simp at this
    have h256 := hs.wf.v256
    rw [← IntWalk.wrap64_in z ⟨by omega, by omega⟩]; exact wrap64_wf _
  have hrg : ∀ z ∈ vs, 0 ≤ z ∧ z < (S.vars : Int) := fun z hz => by
    have := List.all_eq_true.1 hvo z hz
    unfold vOk at this
    simpa using this
  have hrg2 : ∀ z ∈ us, 0 ≤ z ∧ z < (S.vars : Int) := fun z hz => by
    have := List.all_eq_true.1 huo z hz
    unfold vOk at this
    simpa using this
  have hm1 : mayE S vs [] = 0 := mayE_ok hvl hvo rfl
  have hm2 : mayE S us [(k : Int)] = 0 := mayE_ok (by omega) huo (by simp [isK_nat, hk])
  have hdc : dcnt vs.reverse = vs.length := by rw [dcnt_nodup (nodup_rev hnd), List.length_reverse]
  have HV := Lib.hid hv; have HU := Lib.hid hu; have HS := Lib.hid hs; have HO := Lib.hid ho; have HQ := Lib.hid hq; have HBW := Lib.hid hB; have HK := Lib.hid hk; have HN := Lib.hid hn; have HC := Lib.hid hC; have HD := Lib.hid hd; have HRG := Lib.hid hrg; have HRG2 := Lib.hid hrg2; have HWF := Lib.hid hwf
  have HSET := Lib.hid (fun (W : World) (hW : Below w.heap.size w W) => set_ok W va vs c (by omega) (HV.out.below hW) HWF.out)
  rw [hdc] at HSET
  have HM1 := Lib.hid (fun (W : World) (hW : Below w.heap.size w W) => qmay_ok W B p q qn S (HS.out.below hW) (HQ.out.below hW HQ.out.lt) va none vs [] c 0 (by omega) (by simp) (HV.out.below hW) (fun hx => absurd rfl hx))
  rw [hm1] at HM1
  have HM2 := Lib.hid (fun (W : World) (hW : Below w.heap.size w W) (na : Option Addr) (hna : Cells W na [.int .i64 (k : Int)]) => qmay_ok W B p q qn S (HS.out.below hW) (HQ.out.below hW HQ.out.lt) ua na us [(k : Int)] c' 1 (by omega) (by simp) (HU.out.below hW) hna)
  rw [hm2, hul] at HM2
  obtain ⟨N, hN⟩ : ∃ N, vs.length = N := ⟨_, rfl⟩
  rw [hN] at hU
  have HUU := Lib.hid hU
  have hul2 : us.length = N := by rw [hul, hN]
  have HNV := Lib.hid hN; have HNU := Lib.hid hul2
  rw [hul2]
  rw [hN] at HM1 HM2 HSET ⊢
  have hmk := @run_makeMap Tryz.prog
  have hmf : ∀ (fn : Fn) (first cap : Array Value) (w : World), (Instr.makeFunc fn first cap).run Tryz.prog w = .ok (.func fn first cap) w := fun _ _ _ _ => rfl
  have hql := hq.lt
  have hN256 : N ≤ 256 := by omega
  obtain ⟨wq, hwq⟩ : ∃ wq, wq = w.alloc (.cells #[.pointer (some ⟨qn, 0, none⟩)] 30) := ⟨_, rfl⟩
  have HWQ := Lib.hid hwq
  have hbq : Below w.heap.size w wq := by rw [hwq]; exact (Below.refl _ _).alloc (Nat.le_refl _) _
  have hqx : Blk wq w.heap.size 30 #[.pointer (some ⟨qn, 0, none⟩)] := by rw [hwq]; exact Blk.new_ w _ _
  have HBQ := Lib.hid hbq; have HQX := Lib.hid hqx
  clear hs ho hq hB hk hv hu hvl hul hul2 hvo huo hnd hC hn hd hU hwf hrg hrg2 hm1 hm2 hdc hN hwq hbq hqx
  go_enter Tryz.func64, Tryz.ntmps64
  go_wp2_with fail
  rw [← HWQ.out]
  refine (HSET.out wq HBQ.out).mono ?_
  rintro e w1 ⟨b1, rfl, hb1, hz, hb2⟩
  have HZ := Lib.hid hz; have HB1 := Lib.hid (HBQ.out.trans (hb2.mono HBQ.out.size)); have HX1 := Lib.hid (HQX.out.below hb2 HQX.out.lt)
  have x1 : w1.cell? ⟨w.heap.size, 0, none⟩ = some (.pointer (some ⟨qn, 0, none⟩)) := HX1.out.cell 0
  have xl := HX1.out.lt
  have hlen := HZ.out.len
  clear hz hb1 hb2
  go_wp2_with fail
  refine (HM1.out w1 HB1.out).mono ?_
  rintro e w2 ⟨rfl, n2, hw2⟩
  have hb2 : Below w.heap.size w w2 := by rw [hw2]; exact HB1.out.trans ((bdN' _ _).mono HB1.out.size)
  have hx2 : Blk w2 w.heap.size 30 #[.pointer (some ⟨qn, 0, none⟩)] := by rw [hw2]; exact HX1.out.below (bdN' _ _) HX1.out.lt
  have HB2 := Lib.hid hb2; have HX2 := Lib.hid hx2
  have x2 : w2.cell? ⟨w.heap.size, 0, none⟩ = some (.pointer (some ⟨qn, 0, none⟩)) := hx2.cell 0
  have xl2 := hx2.lt
  clear hw2 hb2 hx2 x1 xl hlen HZ
  obtain ⟨w3, hw3⟩ : ∃ w3, w3 = w2.alloc (.cells #[.int .i64 (k : Int)] 3) := ⟨_, rfl⟩
  have HW3 := Lib.hid hw3
  have hb3 : Below w2.heap.size w2 w3 := by rw [hw3]; exact (Below.refl _ _).alloc (Nat.le_refl _) _
  have hc3 : Cells w3 (some ⟨w2.heap.size, 0, none⟩) [.int .i64 (k : Int)] := by rw [hw3]; exact Cells.lit w2 _ _
  have HB3 := Lib.hid (HB2.out.trans (hb3.mono HB2.out.size)); have HX3 := Lib.hid (HX2.out.below hb3 HX2.out.lt); have HC3 := Lib.hid hc3
  clear hw3 hb3 hc3
  go_wp2_with fail
  rw [← HW3.out]
  refine (HM2.out w3 HB3.out _ HC3.out).mono ?_
  rintro e w4 ⟨rfl, n4, hw4⟩
  have hb4 : Below w.heap.size w w4 := by rw [hw4]; exact HB3.out.trans ((bdN' _ _).mono HB3.out.size)
  have hx4 : Blk w4 w.heap.size 30 #[.pointer (some ⟨qn, 0, none⟩)] := by rw [hw4]; exact HX3.out.below (bdN' _ _) HX3.out.lt
  have HB4 := Lib.hid hb4; have HX4 := Lib.hid hx4
  clear hw4 hb4 hx4 x2 xl2
  go_wp2_with fail
  obtain ⟨w6, hw6⟩ : ∃ w6, w6 = (w4.alloc (.map #[] 0)).alloc (.cells #[.map (some w4.heap.size)] 147) := ⟨_, rfl⟩
  have HW6 := Lib.hid hw6
  have hb6 : Below w4.heap.size w4 w6 := by rw [hw6]; exact ((Below.refl _ _).alloc (Nat.le_refl _) _).alloc (by simp) _
  have hm6 : IMap w6 w4.heap.size S.vars (fun _ => none) := by rw [hw6]; exact (IMap.new w4 S.vars).below ((Below.refl _ _).alloc (Nat.le_refl _) _)
  have hx6 : Blk w6 (w4.heap.size + 1) 147 #[.map (some w4.heap.size)] := by
    have h := Blk.new_ (w4.alloc (.map #[] 0)) 147 #[.map (some w4.heap.size)]
    have e : (w4.alloc (.map #[] 0)).heap.size = w4.heap.size + 1 := by simp
    rw [e] at h
    rw [hw6]; exact h
  have HB6 := Lib.hid (HB4.out.trans (hb6.mono HB4.out.size)); have HM6 := Lib.hid hm6; have HX6 := Lib.hid hx6; have HQ6 := Lib.hid (HX4.out.below hb6 HX4.out.lt)
  have hs4 := HB4.out.size
  have HS4 := Lib.hid hs4
  clear hw6 hb6 hm6 hx6
  try rw [← HW6.out]
  go_loopg [44] N (fun m x wr => ∃ j : Nat, m + j = N ∧ x = .int .i64 (j : Int) ∧ IMap wr w4.heap.size S.vars (bm vs us j) ∧ Below w.heap.size w wr ∧ Blk wr (w4.heap.size + 1) 147 #[.map (some w4.heap.size)] ∧ Blk wr w.heap.size 30 #[.pointer (some ⟨qn, 0, none⟩)])
  case atStart => exact ⟨0, rfl, rfl, HM6.out, HB6.out, HX6.out, HQ6.out⟩
  case round =>
    obtain ⟨j, hm, rfl, hi, hb, hx, hqq⟩ := hrel
    have HM := Lib.hid hm; have HI := Lib.hid hi; have HB := Lib.hid hb; have HX := Lib.hid hx; have HQQ := Lib.hid hqq
    clear hm hi hb hx hqq
    by_cases hlt : j < N
    · obtain ⟨K, hK⟩ : ∃ K, vs[j]? = some K := ⟨_, List.getElem?_eq_getElem (by rw [HNV.out]; exact hlt)⟩
      obtain ⟨U, hU⟩ : ∃ U, us[j]? = some U := ⟨_, List.getElem?_eq_getElem (by rw [HNU.out]; exact hlt)⟩
      obtain ⟨xb, xo, hxa, hxl, hxc⟩ := (HV.out.below HB.out).at_ (k := j) (v := .int .i64 K) (by rw [List.getElem?_map, hK]; rfl)
      obtain ⟨yb, yo, hya, hyl, hyc⟩ := (HU.out.below HB.out).at_ (k := j) (v := .int .i64 U) (by rw [List.getElem?_map, hU]; rfl)
      subst hxa hya
      have hK2 := HRG.out K (List.mem_of_getElem? hK)
      have hU2 := HRG2.out U (List.mem_of_getElem? hU)
      have gK : vs.getD j 0 = K := by rw [List.getD_eq_getElem?_getD, hK]; rfl
      have gU : us.getD j 0 = U := by rw [List.getD_eq_getElem?_getD, hU]; rfl
      obtain ⟨x, rfl⟩ : ∃ x : Nat, K = (x : Int) := ⟨K.toNat, by omega⟩
      obtain ⟨u, rfl⟩ : ∃ u : Nat, U = (u : Int) := ⟨U.toNat, by omega⟩
      have hbm : bm vs us (j + 1) = updM (bm vs us j) x u := by show updM (bm vs us j) (vs.getD j 0).toNat (us.getD j 0).toNat = _; rw [gK, gU]; rfl
      have HBM := Lib.hid hbm
      have m0 : wr.cell? ⟨w4.heap.size + 1, 0, none⟩ = some (.map (some w4.heap.size)) := HX.out.cell 0
      have ml := HX.out.lt
      have hxv : x < S.vars := by omega
      have hnn : (if (intM (bm vs us j) (.int .i64 (x : Int))).isSome then cntS (fun i => (bm vs us j i).isSome) S.vars else cntS (fun i => (bm vs us j i).isSome) S.vars + 1) = cntS (fun i => (updM (bm vs us j) x u i).isSome) S.vars := by
        rw [intM_at]
        cases hmx : bm vs us j x with
        | none => rw [cnt_updM hxv hmx]; rfl
        | some y =>
          show cntS (fun i => (bm vs us j i).isSome) S.vars = _
          refine cntS_congr _ fun i => ?_
          unfold updM
          by_cases e : i = x
          · subst e; simp [hmx]
          · simp [e]
      have hcl : cntS (fun i => (bm vs us j i).isSome) S.vars < maxLen := by have := cntS_le (fun i => (bm vs us j i).isSome) S.vars; have := HS.out.wf.v256; unfold maxLen; omega
      have HNN := Lib.hid hnn; have HCL := Lib.hid hcl
      have HKEY := Lib.hid (keyI x (by have := HS.out.wf.v256; omega))
      clear hK hU hK2 hU2 gK gU hbm hnn hcl hxv
      go_wp2_with fail
      go_still_tail 6, (by kernel_rfl)
      change wpList _ _ _ _ _ wr.drew
      obtain ⟨wd, hwd⟩ : ∃ wd, wd = wr.drew := ⟨_, rfl⟩
      have hbd : Below wr.heap.size wr wd := by rw [hwd]; exact bdN' _ 1
      have HID := Lib.hid (HI.out.below hbd); have HBD := Lib.hid (HB.out.trans (hbd.mono HB.out.size)); have HXD := Lib.hid (HX.out.below hbd HX.out.lt); have HQD := Lib.hid (HQQ.out.below hbd HQQ.out.lt)
      rw [← hwd]
      clear hwd hbd
      go_wp2_with (at_mapUpdate; refine wpList_msetn rfl (.tmp 49) (.tmp 50) (.tmp 54) 147 rfl 3 (Maps.int_keyed Tryz.underlying3) Tryz.underlying147 rfl HID.out HCL.out _ (.int .i64 (u : Int)) _ rfl rfl HKEY.out _ HNN.out ?_)
      rw [intM_set]
      intro w5 hm5 hg5
      have hb5 : Below w.heap.size w w5 := HBD.out.grown hg5 HBD.out.size (fun j hj => by injection hj with hj; have := HS4.out; omega)
      have hkz : Kb (fun _ => false) wd w5 := (Km.grown (T := fun _ => false) (B := 0) hg5).kb (IMap.is HID.out)
      have HI5 := Lib.hid (show IMap w5 w4.heap.size S.vars (updM (bm vs us j) x u) from hm5)
      have HB5 := Lib.hid hb5; have HX5 := Lib.hid (hkz _ _ _ HXD.out rfl); have HQ5 := Lib.hid (hkz _ _ _ HQD.out rfl)
      clear hm5 hg5 hb5 hkz
      go_wp2_with fail
      go_roundg (N - (j + 1))
      case measure => have := HM.out; omega
      case rel => exact ⟨j + 1, by have := HM.out; omega, by go_num, by rw [HBM.out]; exact HI5.out, HB5.out, HX5.out, HQ5.out⟩
    · have hj : j = N := by have := HM.out; omega
      subst hj
      have qq0 : wr.cell? ⟨w.heap.size, 0, none⟩ = some (.pointer (some ⟨qn, 0, none⟩)) := HQQ.out.cell 0
      have ql := HQQ.out.lt
      clear hlt
      have hal := (Below.refl wr.heap.size wr).alloc (Nat.le_refl _) (.map #[] 0)
      have HAL := Lib.hid (HB.out.trans (hal.mono HB.out.size))
      have hbms := bm_lt (vs := vs) (us := us) (L := S.vars) HRG2.out j (by rw [HNU.out]; exact Nat.le_refl _)
      have HI2 : Hid (RnI p q qn w.heap.size (w4.heap.size + 1) w4.heap.size S.vars wr.heap.size (bm vs us j) (wr.alloc (.map #[] 0))) := Lib.hid ⟨HQ.out.below HAL.out HQ.out.lt, HQQ.out.alloc_ _, HX.out.alloc_ _, HI.out.below hal, by have := HI.out.lt; omega⟩
      have HW := Lib.hid (qwalk_ok B p q qn wr.heap.size 90 V (fun _ => C) #[.pointer (some ⟨w4.heap.size + 1, 0, none⟩), .pointer (some ⟨w.heap.size, 0, none⟩)] S (rnT S (byM (bm vs us j))) (RnI p q qn w.heap.size (w4.heap.size + 1) w4.heap.size S.vars wr.heap.size (bm vs us j)) HS.out.wf (Nat.le_trans HBW.out HB.out.size) (fun w w' hi hm hk => hi.km hm hk) (fun w hi => hi.qu) (fun k hk ρ => rnT_leaf S _ hk ρ) call_rn
        (fun w2' S2 k2 low high f hd _ hi hs ho hB he h2 hk hl hh => by
          rw [app2]
          exact rn1_ok B p q qn w.heap.size (w4.heap.size + 1) w4.heap.size S.vars wr.heap.size C V U _ S HS.out.wf HC.out HUU.out hbms w2' S2 k2 low high hd hi hs ho hB he h2 hk hl hh)
        (rk V S.vars 0) (wr.alloc (.map #[] 0)) S k (fun _ => none) HI2.out (HS.out.below HAL.out) (HO.out.below HAL.out) (Nat.le_trans HBW.out HAL.out.size) (Ext.refl _) (IMap.new wr _) (fun _ _ h => by cases h) HK.out HD.out (rk_le (Nat.zero_le _)))
      clear hal hbms
      go_wp2_with fail
      refine HW.out.mono ?_
      intro e w8 hr
      have HR := Lib.hid (hr.op (w0 := w) HAL.out HB.out.size HN.out)
      obtain ⟨x, y, rfl⟩ := opRet HR.out
      clear hr
      go_wp2_with fail
      go_ret2
      exact HR.out
end Go.Proofs.YtobhjkfkdkiigaaGreatDoor

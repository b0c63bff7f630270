/- Layer 5: the contract of Exists. -/
import Derived.Test.YtobhjkfkdkiigaaGreatDoorQuanB
namespace Go.Proofs.YtobhjkfkdkiigaaGreatDoor
open Go.RowKit HP NP
theorem call_ex (args : Array Value) (w : World) : (callFunc 71 args).run Tryz.prog w = .ok (.enter 71 args) w := MuLone.run_callFunc_enter Tryz.func71 (by kernel_rfl) rfl args w
theorem ZSet.km {T : TypeId → Bool} {B m : Nat} {w w' : World} {b n : Nat} {s : Int → Bool} (h : ZSet w b n s) (hne : b ≠ m) (hk : Km T B m w w') : ZSet w' b n s := by
  have hm : IsMap w b := MapAt.block h
  refine MapAt.keep h (hk.block b (MapAt.lt h) ?_)
  rintro (⟨_, cs, t, f, h2, _⟩ | e)
  · obtain ⟨es, c, hm⟩ := hm
    rw [hm] at h2; cases h2
  · exact hne e
/-- the boxes that Exists's function holds -/
structure ExI (p q qn h gx b1 n m : Nat) (s : Int → Bool) (w : World) : Prop where
  qu : QuBlk w qn p q
  b0 : Blk w h 30 #[.pointer (some ⟨qn, 0, none⟩)]
  bx : Blk w gx 106 #[.map (some b1)]
  gs : ZSet w b1 n s
  ne : b1 ≠ m
theorem ExI.km {p q qn h gx b1 n m : Nat} {s : Int → Bool} {B : Nat} {w w' : World} (hi : ExI p q qn h gx b1 n m s w) (hm : IsMap w m) (hk : Km TO B m w w') : ExI p q qn h gx b1 n m s w' := ⟨hk.blk hm hi.qu rfl, hk.blk hm hi.b0 rfl, hk.blk hm hi.bx rfl, hi.gs.km hi.ne hk, hi.ne⟩
def inS (s : Int → Bool) (i : Nat) : Bool := s (i : Int)
set_option maxRecDepth 100000 in
set_option maxHeartbeats 1600000 in
theorem ex1_ok (B p q qn h gx b1 n m : Nat) (V : Nat → Bool) (s : Int → Bool) (S0 : NS) (hW0 : Wf S0) (w : World) (S : NS) (k low high f : Nat) (hd : Dep V (fun ρ => den S0.l ρ k)) (hf : rk V S0.vars (nd S0.l k).v ≤ f + 1) (hi : ExI p q qn h gx b1 n m s w) (hs : Sto w B p S) (ho : OpsM w B p q S) (hB : B ≤ w.heap.size) (he : Ext S0 S) (h2 : 2 ≤ k) (hk : isB S0.l k = true)
    (hl : Den S low (exT S0 (inS s) (nd S0.l k).low)) (hh : Den S high (exT S0 (inS s) (nd S0.l k).high)) :
    Calls Tryz.prog 71 #[.int .i64 ((nd S0.l k).v : Int), .int .i64 (low : Int), .int .i64 (high : Int), .pointer (some ⟨gx, 0, none⟩), .pointer (some ⟨h, 0, none⟩)] w (OpPost B p q S (exT S0 (inS s) k) (2 ^ f) w) := by
  obtain ⟨hv1, _, hlo, hhi, hvl, hvh⟩ := hW0.kid k h2 hk
  have hv256 := hW0.v256
  have c0 : w.cell? ⟨h, 0, none⟩ = some (.pointer (some ⟨qn, 0, none⟩)) := hi.b0.cell 0
  have cx : w.cell? ⟨gx, 0, none⟩ = some (.map (some b1)) := hi.bx.cell 0
  have cq0 : w.cell? ⟨qn, 0, none⟩ = some (.pointer (some ⟨q, 0, none⟩)) := hi.qu.cell 0
  have cq1 : w.cell? ⟨qn, 1, none⟩ = some (.pointer (some ⟨p, 0, none⟩)) := hi.qu.cell 1
  have l0 := hi.b0.lt; have lx := hi.bx.lt; have lq := hi.qu.lt
  have HGS := Lib.hid hi.gs
  have HKEY := Lib.hid (keyI (nd S0.l k).v (by omega))
  have fl : From (exT S0 (inS s) (nd S0.l k).low) ((nd S0.l k).v + 1) := (exT_from hW0 (inS s) hlo).mono (by omega)
  have fh : From (exT S0 (inS s) (nd S0.l k).high) ((nd S0.l k).v + 1) := (exT_from hW0 (inS s) hhi).mono (by omega)
  have hvS : (nd S0.l k).v < S.vars := by rw [he.vars]; exact hv1
  have hrk := rk_lt (Nat.le_refl _) hv1 (hd.top hW0 hk hv1)
  have hdl : Dep V (exT S0 (inS s) (nd S0.l k).low) := exQ_dep (hd.kids hW0 h2 hk).1
  have hdh : Dep V (exT S0 (inS s) (nd S0.l k).high) := exQ_dep (hd.kids hW0 h2 hk).2
  cases hsv : s ((nd S0.l k).v : Int) with
  | true =>
    have hat : atF (setZ s) (.int .i64 ((nd S0.l k).v : Int)) (.bool false) = .bool true := by unfold atF; rw [setZ_at, hsv]; rfl
    have HAT := Lib.hid hat
    have HOR := Lib.hid ((oorU_ok w B p q ((nd S0.l k).v + 1) f V S hs ho hB low high _ _ hl hh fl fh (by omega) hdl hdh (by rw [he.vars]; omega) (2 ^ f) (by omega)))
    have HEX := Lib.hid (exT_in hW0 (inS s) h2 hk hsv)
    clear hf hi hs ho he h2 hk hl hh hv1 hlo hhi hvl hvh hsv hat fl fh hvS hW0 hv256 hrk hdl hdh hd
    go_enter Tryz.func71, Tryz.ntmps71
    go_wp2_with (at_lookup; refine wpList_mlook rfl (.tmp 10) (.tmp 11) 106 rfl 4 (Maps.int_keyed Tryz.underlying3) Tryz.underlying106 (zeroB _) rfl HGS.out _ _ rfl HKEY.out ?_; rw [HAT.out])
    refine HOR.out.mono ?_
    intro e w1 hr
    have HR := Lib.hid (hr.cong (g' := exT S0 (inS s) k) (fun ρ => (HEX.out ρ).symm) (Nat.le_refl _))
    obtain ⟨x, y, rfl⟩ := opRet hr
    clear hr
    go_wp2_with fail
    go_ret2
    exact HR.out
  | false =>
    have hat : atF (setZ s) (.int .i64 ((nd S0.l k).v : Int)) (.bool false) = .bool false := by unfold atF; rw [setZ_at, hsv]; rfl
    have HAT := Lib.hid hat
    have HMK := Lib.hid (mk_step w B p q S hs ho hB (nd S0.l k).v low high _ _ hl hh fl fh hvS)
    have HEX := Lib.hid (exT_out hW0 (inS s) h2 hk hsv)
    have hpw : 1 ≤ 2 ^ f := Nat.one_le_two_pow
    have HPW := Lib.hid hpw
    clear hf hi hs ho he h2 hk hl hh hv1 hlo hhi hvl hvh hsv hat fl fh hvS hW0 hv256 hpw hrk hdl hdh hd
    go_enter Tryz.func71, Tryz.ntmps71
    go_wp2_with (at_lookup; refine wpList_mlook rfl (.tmp 10) (.tmp 11) 106 rfl 4 (Maps.int_keyed Tryz.underlying3) Tryz.underlying106 (zeroB _) rfl HGS.out _ _ rfl HKEY.out ?_; rw [HAT.out])
    refine HMK.out.mono ?_
    intro e w1 hr
    have HR := Lib.hid (hr.cong (g' := exT S0 (inS s) k) (m := 2 ^ f) (fun ρ => (HEX.out ρ).symm) HPW.out)
    obtain ⟨x, y, rfl⟩ := opRet hr
    clear hr
    go_wp2_with fail
    go_ret2
    exact HR.out
theorem app2 (a b c d e : Value) : (#[a, b, c] ++ #[d, e] : Array Value) = #[a, b, c, d, e] := rfl
abbrev exW2 (w : World) (qn : Nat) (k : Int) : World := (w.alloc (.cells #[.pointer (some ⟨qn, 0, none⟩)] 30)).alloc (.cells #[.int .i64 k] 3)
theorem exW_facts (w : World) (qn : Nat) (k : Int) : Below w.heap.size w (exW2 w qn k) ∧ (exW2 w qn k).heap.size = w.heap.size + 1 + 1 ∧ Cells (exW2 w qn k) (some ⟨w.heap.size + 1, 0, none⟩) [.int .i64 k] ∧ Blk (exW2 w qn k) w.heap.size 30 #[.pointer (some ⟨qn, 0, none⟩)] := by
  have a0 := Blk.new_ w 30 #[.pointer (some ⟨qn, 0, none⟩)]
  have e1 : (w.alloc (.cells #[.pointer (some ⟨qn, 0, none⟩)] 30)).heap.size = w.heap.size + 1 := by simp
  have c1 := Cells.lit (w.alloc (.cells #[.pointer (some ⟨qn, 0, none⟩)] 30)) #[.int .i64 k] 3
  rw [e1] at c1
  exact ⟨((Below.refl _ _).alloc (Nat.le_refl _) _).alloc (by simp) _, by simp, c1, a0.alloc_ _⟩
set_option maxRecDepth 100000 in
set_option maxHeartbeats 1600000 in
theorem qex_no (w : World) (B p q qn : Nat) (S : NS) (hs : Sto w B p S) (hq : QuBlk w qn p q) (k : Int) (va : Option Addr) (vs : List Int) (c : Nat) (hvl : vs.length ≤ 300) (hv : Cells w va (vs.map fun k => .int .i64 k)) (E : Int) (hE : mayE S vs [k] = E) (hE0 : E ≠ 0) :
    Calls Tryz.prog 45 #[.pointer (some ⟨qn, 0, none⟩), .int .i64 k, .slice va vs.length c] w (RetE E w) := by
  obtain ⟨hbl, hsz, ck, b0⟩ := exW_facts w qn k
  have HM := Lib.hid (qmay_ok (exW2 w qn k) B p q qn S (hs.below hbl) (hq.below hbl hq.lt) va _ vs [k] c 1 hvl (by simp) (hv.below hbl) ck)
  rw [hE] at HM
  have hne : (E != 0) = true := by rw [bne_iff_ne]; exact hE0
  have HBL := Lib.hid hbl
  obtain ⟨N, hN⟩ : ∃ N, vs.length = N := ⟨_, rfl⟩
  rw [hN] at HM ⊢
  clear hs hq hbl hsz ck b0 hE hE0 hv hvl hN
  go_enter Tryz.func45, Tryz.ntmps45
  go_wp2_with fail
  refine HM.out.mono ?_
  rintro e w1 ⟨rfl, n, hw1⟩
  have hb1 : Below w.heap.size w w1 := by rw [hw1]; exact HBL.out.trans ((bdN' _ _).mono (by simp; omega))
  have HB1 := Lib.hid hb1
  clear hw1 hb1
  go_wp2_with fail
  go_ret2
  exact ⟨rfl, HB1.out⟩
set_option maxRecDepth 100000 in
set_option maxHeartbeats 1600000 in
theorem qex_ok (w : World) (B p q qn : Nat) (S : NS) (hs : Sto w B p S) (ho : OpsM w B p q S) (hq : QuBlk w qn p q) (hB : B ≤ w.heap.size) (k : Nat) (hk : isB S.l k = true) (va : Option Addr) (vs : List Int) (c : Nat) (hvl : vs.length ≤ 256) (hv : Cells w va (vs.map fun k => .int .i64 k)) (hok : vs.all (vOk S) = true) (V : Nat → Bool) (hd : Dep V (fun ρ => den S.l ρ k)) (n : Nat) (hn : tot (fun f => 2 ^ f) (rk V S.vars 0) ≤ n) :
    Calls Tryz.prog 45 #[.pointer (some ⟨qn, 0, none⟩), .int .i64 (k : Int), .slice va vs.length c] w (OpPost B p q S (exT S (inS (fun z => vs.reverse.contains z)) k) n w) := by
  obtain ⟨hbl, hsz, ck, b0⟩ := exW_facts w qn (k : Int)
  have hm0 : mayE S vs [(k : Int)] = 0 := mayE_ok hvl hok (by simp [isK_nat, hk])
  have HM := Lib.hid (qmay_ok (exW2 w qn k) B p q qn S (hs.below hbl) (hq.below hbl hq.lt) va _ vs [(k : Int)] c 1 (by omega) (by simp) (hv.below hbl) ck)
  rw [hm0] at HM
  have hwf : ∀ z ∈ vs, (Lit.int .i64 z).wf = true := fun z hz => by
    have := List.all_eq_true.1 hok z hz
    unfold vOk at this
    simp at this
    have h256 := hs.wf.v256
    rw [← IntWalk.wrap64_in z ⟨by omega, by omega⟩]; exact wrap64_wf _
  have HBL := Lib.hid hbl; have HS := Lib.hid hs; have HO := Lib.hid ho; have HQ := Lib.hid hq; have HK := Lib.hid hk; have HN := Lib.hid hn; have HD := Lib.hid hd; have HSZ := Lib.hid hsz; have HV := Lib.hid hv; have HWF := Lib.hid hwf
  have HB0 := Lib.hid b0
  have hmk := @run_makeMap Tryz.prog
  have hmf : ∀ (fn : Fn) (first cap : Array Value) (w : World), (Instr.makeFunc fn first cap).run Tryz.prog w = .ok (.func fn first cap) w := fun _ _ _ _ => rfl
  have HSET := Lib.hid (fun (W : World) (hW : Below w.heap.size w W) => set_ok W va vs c (by omega) (HV.out.below hW) HWF.out)
  obtain ⟨N, hN⟩ : ∃ N, vs.length = N := ⟨_, rfl⟩
  rw [hN] at HM HSET ⊢
  obtain ⟨s, hss⟩ : ∃ s : Int → Bool, s = fun z => vs.reverse.contains z := ⟨_, rfl⟩
  rw [← hss] at HSET ⊢
  obtain ⟨dn, hdn⟩ : ∃ dn, dn = dcnt vs.reverse := ⟨_, rfl⟩
  rw [← hdn] at HSET
  clear hs ho hq hbl hsz ck b0 hk hn hm0 hv hok hwf hN hvl hss hdn hd
  go_enter Tryz.func45, Tryz.ntmps45
  go_wp2_with fail
  refine HM.out.mono ?_
  rintro e w1 ⟨rfl, nd, hw1⟩
  have hb1 : Below w.heap.size w w1 := by rw [hw1]; exact HBL.out.trans ((bdN' _ _).mono (by simp; omega))
  have hb51 : Below (exW2 w qn k).heap.size (exW2 w qn k) w1 := by rw [hw1]; exact bdN' _ _
  have HB := Lib.hid hb1
  have HC0 := Lib.hid (HB0.out.below hb51 HB0.out.lt)
  clear hw1 hb1 hb51
  go_wp2_with fail
  refine (HSET.out w1 HB.out).mono ?_
  rintro e w2 ⟨b1, rfl, hb1, hz, hb2⟩
  have HD0 := Lib.hid (HC0.out.below hb2 HC0.out.lt)
  have HZ := Lib.hid hz; have HBB := Lib.hid (HB.out.trans (hb2.mono HB.out.size)); have HB1 := Lib.hid hb1
  have d0 : w2.cell? ⟨w.heap.size, 0, none⟩ = some (.pointer (some ⟨qn, 0, none⟩)) := HD0.out.cell 0
  have l0 := HD0.out.lt
  clear hz hb1 hb2
  go_wp2_with fail
  obtain ⟨w3, hw3⟩ : ∃ w3, w3 = w2.alloc (.cells #[.map (some b1)] 106) := ⟨_, rfl⟩
  have hs3 : w3.heap.size = w2.heap.size + 1 := by rw [hw3]; simp
  have hb3 : Below w2.heap.size w2 w3 := by rw [hw3]; exact (Below.refl _ _).alloc (Nat.le_refl _) _
  have hbx : Blk w3 w2.heap.size 106 #[.map (some b1)] := by rw [hw3]; exact Blk.new_ w2 _ _
  have HBx := Lib.hid hbx
  have HB3 := Lib.hid (HBB.out.trans (hb3.mono HBB.out.size))
  have hE3 : w2.heap.size + 1 = w3.heap.size := hs3.symm
  rw [← hw3, hE3]
  have hal := (Below.refl w3.heap.size w3).alloc (Nat.le_refl _) (.map #[] 0)
  have HZ3 : Hid (ZSet w3 b1 dn s) := Lib.hid (MapAt.below HZ.out hb3)
  have HI : Hid (ExI p q qn w.heap.size w2.heap.size b1 dn w3.heap.size s (w3.alloc (.map #[] 0))) := Lib.hid ⟨(HQ.out.below HB3.out HQ.out.lt).alloc_ _, (HD0.out.below hb3 HD0.out.lt).alloc_ _, hbx.alloc_ _, MapAt.below HZ3.out ((Below.refl _ _).alloc (Nat.le_refl _) _), by have := MapAt.lt HZ.out; omega⟩
  have HW := Lib.hid (qwalk_ok B p q qn w3.heap.size 71 V (fun f => 2 ^ f) #[.pointer (some ⟨w2.heap.size, 0, none⟩), .pointer (some ⟨w.heap.size, 0, none⟩)] S (exT S (inS s)) (ExI p q qn w.heap.size w2.heap.size b1 dn w3.heap.size s) HS.out.wf (by have := HB3.out.size; omega) (fun w w' hi hm hk => hi.km hm hk) (fun w hi => hi.qu) (fun k hk ρ => exT_leaf S (inS s) hk ρ) call_ex
    (fun w2' S2 k2 low high f hd hf hi hs ho hB he h2 hk hl hh => by
      rw [app2]
      exact ex1_ok B p q qn w.heap.size w2.heap.size b1 dn w3.heap.size V s S HS.out.wf w2' S2 k2 low high f hd hf hi hs ho hB he h2 hk hl hh)
    (rk V S.vars 0) (w3.alloc (.map #[] 0)) S k (fun _ => none) HI.out ((HS.out.below HB3.out).below hal) ((HO.out.below HB3.out).below hal) (by have := HB3.out.size; simp; omega) (Ext.refl _) (IMap.new w3 _) (fun _ _ h => by cases h) HK.out HD.out (rk_le (Nat.zero_le _)))
  refine HW.out.mono ?_
  intro e w4 hr
  have HR := Lib.hid (hr.op (w0 := w) (HB3.out.trans (hal.mono HB3.out.size)) HB3.out.size HN.out)
  obtain ⟨x, y, rfl⟩ := opRet HR.out
  clear hr hw3 hs3 hE3 hb3 hbx hal
  go_wp2_with fail
  go_ret2
  exact HR.out
end Go.Proofs.YtobhjkfkdkiigaaGreatDoor

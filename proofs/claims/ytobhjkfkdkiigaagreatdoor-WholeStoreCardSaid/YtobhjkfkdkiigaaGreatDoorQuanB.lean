/- Layer 5: New, Ops, may; a node made upon two that say what is asked (mk_step), Ite and Or below a variable; Restrict. 
 Layer 5: the contract of Restrict. 
 Layer 5: set; the contract of Exists. -/
import Derived.Test.YtobhjkfkdkiigaaGreatDoorQuanM
namespace Go.Proofs.YtobhjkfkdkiigaaGreatDoor
open Go.RowKit HP NP
set_option maxHeartbeats 400000 in
theorem qnew_ok (w : World) (B p q : Nat) (S : NS) (h : OpsM w B p q S) : Calls Tryz.prog 6 #[.pointer (some ⟨q, 0, none⟩)] w fun e w' => ∃ qn, e = .returned (.tuple #[.pointer (some ⟨qn, 0, none⟩), .int .i64 0]) ∧ QuBlk w' qn p q ∧ w.heap.size ≤ qn ∧ Below w.heap.size w w' := by
  have HO := Lib.hid (ostore_ok w B p q S h)
  clear h
  go_enter Tryz.func6, Tryz.ntmps6
  go_wp2_with fail
  refine HO.out.mono ?_
  rintro e w' ⟨rfl, rfl⟩
  go_wp2_with fail
  refine HO.out.mono ?_
  rintro e w' ⟨rfl, rfl⟩
  go_wp2_with fail
  go_ret2
  exact ⟨w.heap.size, rfl, Blk.new_ w 86 #[.pointer (some ⟨q, 0, none⟩), .pointer (some ⟨p, 0, none⟩)], Nat.le_refl _, (Below.refl _ _).alloc (Nat.le_refl _) _⟩
theorem qops_ok (w : World) (qn p q : Nat) (h : QuBlk w qn p q) : Calls Tryz.prog 20 #[.pointer (some ⟨qn, 0, none⟩)] w fun e w' => e = .returned (.pointer (some ⟨q, 0, none⟩)) ∧ w = w' := by
  have c0 : w.cell? ⟨qn, 0, none⟩ = some (.pointer (some ⟨q, 0, none⟩)) := h.cell 0
  have hl := h.lt
  clear h
  go_enter Tryz.func20, Tryz.ntmps20
  go_wp2
  go_ret
  exact ⟨rfl, rfl⟩
/-- nil, or Quan of no operations -/
def NoQu (w : World) (a : Option Addr) : Prop := a = none ∨ ∃ qn, a = some ⟨qn, 0, none⟩ ∧ Blk w qn 86 #[.pointer none, .pointer none]
theorem NoQu.below {w w' : World} {a : Option Addr} (h : NoQu w a) (hb : Below w.heap.size w w') : NoQu w' a := by
  rcases h with h | ⟨q, h, hq⟩
  · exact .inl h
  · exact .inr ⟨q, h, hq.below hb hq.lt⟩
theorem qops_no (w : World) (a : Option Addr) (h : NoQu w a) : Calls Tryz.prog 20 #[.pointer a] w fun e w' => e = .returned (.pointer none) ∧ w = w' := by
  rcases h with rfl | ⟨qn, rfl, h⟩
  · go_enter Tryz.func20, Tryz.ntmps20
    go_wp2
    go_ret
    exact ⟨rfl, rfl⟩
  · have c0 : w.cell? ⟨qn, 0, none⟩ = some (.pointer none) := h.cell 0
    have hl := h.lt
    clear h
    go_enter Tryz.func20, Tryz.ntmps20
    go_wp2
    go_ret
    exact ⟨rfl, rfl⟩
set_option maxHeartbeats 400000 in
theorem qmay_nobody (w : World) (a : Option Addr) (h : NoQu w a) (va na : Option Addr) (n c n' c' : Nat) : Calls Tryz.prog 68 #[.pointer a, .slice va n c, .slice na n' c'] w fun e w' => e = .returned (.int .i64 1) ∧ w = w' := by
  rcases h with rfl | ⟨qn, rfl, h⟩
  · go_enter Tryz.func68, Tryz.ntmps68
    go_wp2
    go_ret
    exact ⟨rfl, rfl⟩
  · have c1 : w.cell? ⟨qn, 1, none⟩ = some (.pointer none) := h.cell 1
    have hl := h.lt
    clear h
    go_enter Tryz.func68, Tryz.ntmps68
    go_wp2
    go_ret
    exact ⟨rfl, rfl⟩
/-! ### may -/
def vOk (S : NS) (v : Int) : Bool := decide (0 ≤ v) && decide (v < S.vars)
def mayE (S : NS) (vs ks : List Int) : Int := if decide (vs.length ≤ 256) && vs.all (vOk S) then (if ks.all (isK S.l) then 0 else 3) else 1
theorem all_take_succ {α : Type} (f : α → Bool) (l : List α) (k : Nat) (x : α) (hk : l[k]? = some x) : (l.take (k + 1)).all f = ((l.take k).all f && f x) := by
  have hkl : k < l.length := by rcases Nat.lt_or_ge k l.length with h | h; exact h; rw [List.getElem?_eq_none h] at hk; cases hk
  have hKe : l[k] = x := by rw [List.getElem?_eq_getElem hkl] at hk; injection hk
  rw [List.take_succ_eq_append_getElem hkl, List.all_append, hKe]
  simp
theorem all_false {α : Type} (f : α → Bool) (l : List α) (k : Nat) (x : α) (hk : l[k]? = some x) (hf : f x = false) : l.all f = false := by
  cases h : l.all f with
  | false => rfl
  | true => rw [List.all_eq_true] at h; have := h x (List.mem_of_getElem? hk); rw [hf] at this; cases this
set_option maxRecDepth 100000 in
set_option maxHeartbeats 3200000 in
theorem qmay_ok (w : World) (B p q qn : Nat) (S : NS) (h : Sto w B p S) (hq : QuBlk w qn p q) (va na : Option Addr) (vs ks : List Int) (c c' : Nat) (hvl : vs.length ≤ 300) (hkl : ks.length ≤ 4) (hv : Cells w va (vs.map fun k => .int .i64 k)) (hk : Cells w na (ks.map fun k => .int .i64 k)) :
    Calls Tryz.prog 68 #[.pointer (some ⟨qn, 0, none⟩), .slice va vs.length c, .slice na ks.length c'] w fun e w' => e = .returned (.int .i64 (mayE S vs ks)) ∧ ∃ n, w' = w.drewN n := by
  have HS := Lib.hid h; have HV := Lib.hid hv; have HK := Lib.hid hk
  have c1 : w.cell? ⟨qn, 1, none⟩ = some (.pointer (some ⟨p, 0, none⟩)) := hq.cell 1
  have hql := hq.lt
  obtain ⟨N, hN⟩ : ∃ N, vs.length = N := ⟨_, rfl⟩
  obtain ⟨M, hM⟩ : ∃ M, ks.length = M := ⟨_, rfl⟩
  have HN := Lib.hid hN; have HMM := Lib.hid hM
  rw [hN] at hvl ⊢
  rw [hM] at hkl ⊢
  clear h hq hv hk hN hM
  by_cases hbig : 256 < N
  · have HE : Hid (mayE S vs ks = 1) := Lib.hid (by unfold mayE; rw [decide_eq_false (by rw [HN.out]; omega)]; rfl)
    go_enter Tryz.func68, Tryz.ntmps68
    go_wp2_with fail
    go_ret
    exact ⟨ret_int HE.out.symm, 0, rfl⟩
  have hbd : decide (256 < N) = false := decide_eq_false hbig
  go_enter Tryz.func68, Tryz.ntmps68
  go_wp2_with fail
  go_loopg [31] N (fun m x wr => ∃ k n : Nat, m + k = N ∧ x = .int .i64 (k : Int) ∧ wr = w.drewN n ∧ (vs.take k).all (vOk S) = true)
  case atStart => exact ⟨0, 0, rfl, rfl, rfl, rfl⟩
  case round =>
    obtain ⟨k, n, hm, rfl, rfl, hall⟩ := hrel
    have HM := Lib.hid hm; have HALL := Lib.hid hall
    clear hm hall
    by_cases hlt : k < N
    · obtain ⟨K, hK⟩ : ∃ K, vs[k]? = some K := ⟨_, List.getElem?_eq_getElem (by rw [HN.out]; exact hlt)⟩
      obtain ⟨xb, xo, rfl, hxl, hxc⟩ := HV.out.at_ (k := k) (v := .int .i64 K) (by rw [List.getElem?_map, hK]; rfl)
      have HKK := Lib.hid hK
      clear hK
      by_cases h0 : K < 0
      · have HE : Hid (mayE S vs ks = 1) := Lib.hid (by unfold mayE; rw [all_false _ _ _ _ HKK.out (by unfold vOk; rw [decide_eq_false (by omega)]; rfl), Bool.and_false]; rfl)
        go_wp2_with fail
        go_ret
        exact ⟨ret_int HE.out.symm, n, rfl⟩
      · by_cases h1 : K < (S.vars : Int)
        · have h1' : ¬ (S.vars : Int) ≤ K := by omega
          have HNX : Hid ((vs.take (k + 1)).all (vOk S) = true) := Lib.hid (by rw [all_take_succ _ _ _ _ HKK.out, HALL.out]; unfold vOk; rw [decide_eq_true (by omega), decide_eq_true h1]; rfl)
          go_wp2_with fail
          refine (nvars_ok (w.drewN n) B p S (HS.out.below (bdN' w n))).mono ?_
          rintro e w' ⟨rfl, rfl⟩
          go_wp2_with fail
          go_roundg (N - (k + 1))
          case measure => have := HM.out; omega
          case rel => exact ⟨k + 1, n, by have := HM.out; omega, by go_num, rfl, HNX.out⟩
        · have h1' : (S.vars : Int) ≤ K := by omega
          have HE : Hid (mayE S vs ks = 1) := Lib.hid (by unfold mayE; rw [all_false _ _ _ _ HKK.out (by unfold vOk; rw [decide_eq_false h1, Bool.and_false]), Bool.and_false]; rfl)
          go_wp2_with fail
          refine (nvars_ok (w.drewN n) B p S (HS.out.below (bdN' w n))).mono ?_
          rintro e w' ⟨rfl, rfl⟩
          go_wp2_with fail
          go_ret
          exact ⟨ret_int HE.out.symm, n, rfl⟩
    · have hk2 : k = N := by have := HM.out; omega
      have HVS : Hid (mayE S vs ks = if ks.all (isK S.l) then 0 else 3) := Lib.hid (by
        have hall := HALL.out
        rw [List.take_of_length_le (by rw [HN.out]; omega)] at hall
        unfold mayE; rw [hall, decide_eq_true (by rw [HN.out]; omega)]; rfl)
      clear hlt
      subst hk2
      go_wp2_with fail
      go_loopg [49] M (fun m x wr => ∃ i n : Nat, m + i = M ∧ x = .int .i64 (i : Int) ∧ wr = w.drewN n ∧ (ks.take i).all (isK S.l) = true)
      case atStart => exact ⟨0, n, rfl, rfl, rfl, rfl⟩
      case round =>
        obtain ⟨i, n, hm, rfl, rfl, hall⟩ := hrel
        have HM2 := Lib.hid hm; have HALL2 := Lib.hid hall
        clear hm hall
        by_cases hlt : i < M
        · obtain ⟨K, hK⟩ : ∃ K, ks[i]? = some K := ⟨_, List.getElem?_eq_getElem (by rw [HMM.out]; exact hlt)⟩
          obtain ⟨xb, xo, rfl, hxl, hxc⟩ := HK.out.at_ (k := i) (v := .int .i64 K) (by rw [List.getElem?_map, hK]; rfl)
          have HKK := Lib.hid hK
          have HA := Lib.hid (nask_ok (w.drewN n) B p S (HS.out.below (bdN' w n)) K)
          clear hK
          cases hisK : isK S.l K with
          | true =>
            have HNX : Hid ((ks.take (i + 1)).all (isK S.l) = true) := Lib.hid (by rw [all_take_succ _ _ _ _ HKK.out, HALL2.out, hisK]; rfl)
            rw [askV_yes hisK] at HA
            clear hisK
            go_wp2_with fail
            refine HA.out.mono ?_
            rintro e w' ⟨rfl, n2, rfl⟩
            go_wp2_with fail
            go_roundg (M - (i + 1))
            case measure => have := HM2.out; omega
            case rel => exact ⟨i + 1, n + n2, by have := HM2.out; omega, by go_num, rfl, HNX.out⟩
          | false =>
            have HE : Hid (mayE S vs ks = 3) := Lib.hid (by rw [HVS.out, all_false _ _ _ _ HKK.out hisK]; rfl)
            rw [askV_no hisK] at HA
            clear hisK
            go_wp2_with fail
            refine HA.out.mono ?_
            rintro e w' ⟨rfl, n2, rfl⟩
            go_wp2_with fail
            go_ret
            exact ⟨ret_int HE.out.symm, _, rfl⟩
        · have HE : Hid (mayE S vs ks = 0) := Lib.hid (by
            have hall := HALL2.out
            rw [List.take_of_length_le (by rw [HMM.out]; omega)] at hall
            rw [HVS.out, hall]; rfl)
          have hi2 : i = M := by have := HM2.out; omega
          clear hlt
          subst hi2
          go_wp2_with fail
          go_ret
          exact ⟨ret_int HE.out.symm, n, rfl⟩
end Go.Proofs.YtobhjkfkdkiigaaGreatDoor
namespace Go.Proofs.YtobhjkfkdkiigaaGreatDoor
open Go.RowKit HP NP
theorem mk_step (w : World) (B p q : Nat) (S : NS) (h : Sto w B p S) (ho : OpsM w B p q S) (hB : B ≤ w.heap.size) (v lo hi : Nat) (gl gh : (Nat → Bool) → Bool) (hl : Den S lo gl) (hh : Den S hi gh) (fl : From gl (v + 1)) (fh : From gh (v + 1)) (hv : v < S.vars) :
    Calls Tryz.prog 60 #[.pointer (some ⟨p, 0, none⟩), .int .i64 (v : Int), .int .i64 (lo : Int), .int .i64 (hi : Int)] w (OpPost B p q S (fun ρ => if ρ v then gh ρ else gl ρ) 1 w) := by
  refine (nmk_ok w B p S h hB (v : Int) (lo : Int) (hi : Int)).mono ?_
  rintro e w' ⟨rfl, hs, hk⟩
  rcases mkS_any h.wf hv hl.is hh.is (hl.ge h.wf fl hv) (hh.ge h.wf fh hv) with ⟨S', k, h5, h6, h7⟩ | ⟨h5, h6⟩
  · rw [h5] at hs ⊢
    exact ⟨S', hs, (ho.kb hk.kb rfl rfl).ext h6.ext h.wf h6.wf h7, hk.mono to_tn (Nat.le_refl _), .inl ⟨k, rfl, ⟨h6.wf, h6.ext, ⟨h6.is, fun ρ => by rw [h6.says, hl.says, hh.says]⟩, h6.cnt, h6.pin, h7⟩⟩⟩
  · rw [h5] at hs ⊢
    exact ⟨S, hs, ho.kb hk.kb rfl rfl, hk.mono to_tn (Nat.le_refl _), .inr ⟨rfl, ⟨h.wf, Ext.refl _, by omega, fun _ => Nat.le_refl _, rfl⟩⟩⟩
set_option maxRecDepth 100000 in
set_option maxHeartbeats 1600000 in
theorem oiteU_ok (w : World) (B p q u f : Nat) (V : Nat → Bool) (S : NS) (h : Sto w B p S) (ho : OpsM w B p q S) (hB : B ≤ w.heap.size) (a b c : Nat) (ga gb gc : (Nat → Bool) → Bool) (ha : Den S a ga) (hb : Den S b gb) (hc : Den S c gc) (hua : u ≤ (nd S.l a).v) (hub : u ≤ (nd S.l b).v) (huc : u ≤ (nd S.l c).v) (da : Dep V ga) (db : Dep V gb) (dc : Dep V gc) (hf : rk V S.vars u ≤ f) (n : Nat) (hn : 2 ^ f ≤ n + 1) :
    Calls Tryz.prog 61 #[.pointer (some ⟨q, 0, none⟩), .int .i64 (a : Int), .int .i64 (b : Int), .int .i64 (c : Int)] w (OpPost B p q S (fun ρ => if ga ρ then gb ρ else gc ρ) n w) := by
  have HS := Lib.hid h; have HO := Lib.hid ho; have HA := Lib.hid ha; have HBB := Lib.hid hb; have HC := Lib.hid hc; have HN := Lib.hid hn; have HUA := Lib.hid hua; have HUB := Lib.hid hub; have HUC := Lib.hid huc; have HF := Lib.hid hf; have DA := Lib.hid (ha.dep da); have DB := Lib.hid (hb.dep db); have DC := Lib.hid (hc.dep dc)
  have hql := ho.lt
  have hsw := ho.2.1
  have hbl := (Below.refl w.heap.size w).alloc (Nat.le_refl _) (.cells #[.int .i64 (a : Int), .int .i64 (b : Int), .int .i64 (c : Int)] 3)
  have HM := Lib.hid (may_ok (w.alloc (.cells #[.int .i64 (a : Int), .int .i64 (b : Int), .int .i64 (c : Int)] 3)) B p q S (h.below hbl) (ho.below hbl) (by simp; omega) (some ⟨w.heap.size, 0, none⟩) [(a : Int), (b : Int), (c : Int)] 3 (by simp) (Cells.lit w _ _) (by
    intro k hk
    simp at hk
    rcases hk with rfl | rfl | rfl
    · rw [isK_nat]; exact ha.is
    · rw [isK_nat]; exact hb.is
    · rw [isK_nat]; exact hc.is))
  have HBL := Lib.hid hbl
  clear h ho ha hb hc hn hbl hua hub huc hf da db dc
  go_enter Tryz.func61, Tryz.ntmps61
  go_wp2_with fail
  refine HM.out.mono ?_
  rintro e w1 ⟨rfl, g, C, ho1, hk1⟩
  have HK1 : Hid (Kp TO B w w1) := Lib.hid ((Kp.of_below HBL.out).trans (hk1.mono to_tc (Nat.le_refl _)))
  have HS1 := Lib.hid ((HS.out.below HBL.out).kp hk1 rfl rfl rfl rfl rfl)
  have HO1 := Lib.hid ho1
  have hB1 : B ≤ w1.heap.size := by have := HK1.out.size; omega
  clear ho1 hk1
  go_wp2_with fail
  refine (ite_ok B p q g V f w1 S C a b c u HS1.out HO1.out hsw hB1 HA.out.is HBB.out.is HC.out.is HUA.out HUB.out HUC.out DA.out DB.out DC.out HF.out).mono ?_
  rintro e w2 ⟨S2, C2, hs2, ho2, hk2, hr⟩
  have HS2 := Lib.hid hs2; have HO2 := Lib.hid ho2; have HK2 := Lib.hid (HK1.out.trans hk2)
  clear hs2 ho2 hk2
  rcases hr with ⟨k, rfl, hok⟩ | ⟨rfl, hno⟩
  · have HR := Lib.hid hok
    clear hok
    go_wp2_with fail
    go_ret2
    exact ⟨S2, HS2.out, HO2.out.m (by rw [HR.out.sw]; exact hsw), HK2.out, .inl ⟨k, rfl, HR.out.got HS.out.wf HA.out HBB.out HC.out (fun _ => rfl) HN.out⟩⟩
  · have HR := Lib.hid hno
    clear hno
    go_wp2_with fail
    go_ret2
    exact ⟨S2, HS2.out, HO2.out.m (by rw [HR.out.sw]; exact hsw), HK2.out, .inr ⟨rfl, HR.out.got HN.out⟩⟩
set_option maxHeartbeats 800000 in
theorem oorU_ok (w : World) (B p q u f : Nat) (V : Nat → Bool) (S : NS) (h : Sto w B p S) (ho : OpsM w B p q S) (hB : B ≤ w.heap.size) (a b : Nat) (ga gb : (Nat → Bool) → Bool) (ha : Den S a ga) (hb : Den S b gb) (hua : From ga u) (hub : From gb u) (hu : u ≤ S.vars) (da : Dep V ga) (db : Dep V gb) (hf : rk V S.vars u ≤ f) (n : Nat) (hn : 2 ^ f ≤ n + 1) :
    Calls Tryz.prog 34 #[.pointer (some ⟨q, 0, none⟩), .int .i64 (a : Int), .int .i64 (b : Int)] w (OpPost B p q S (fun ρ => ga ρ || gb ρ) n w) := by
  have HI := Lib.hid (oiteU_ok w B p q u f V S h ho hB a 1 b _ _ _ ha (Den.one h.wf) hb (ha.ge h.wf hua hu) (by rw [h.wf.v1]; exact hu) (hb.ge h.wf hub hu) da (Dep.const _ _) db hf n hn)
  clear h ho ha hb hn hf hu hua hub da db
  go_enter Tryz.func34, Tryz.ntmps34
  go_wp2_with fail
  refine HI.out.mono ?_
  intro e w1 hr
  have HR := Lib.hid (hr.cong (g' := fun ρ => ga ρ || gb ρ) (fun ρ => by cases ga ρ <;> rfl) (Nat.le_refl _))
  obtain ⟨k, x, rfl⟩ := opRet hr
  clear hr
  go_wp2_with fail
  go_ret2
  exact HR.out
theorem OpPost.same {B p q : Nat} {S : NS} {g : (Nat → Bool) → Bool} {n k : Nat} {w : World} (h : Sto w B p S) (ho : OpsM w B p q S) (hd : Den S k g) {e : Ending} (he : e = .returned (.tuple #[.int .i64 (k : Int), .int .i64 0])) : OpPost B p q S g n w e w :=
  ⟨S, h, ho, Kp.refl _ _ _, .inl ⟨k, he, GotOk.same h.wf hd⟩⟩
end Go.Proofs.YtobhjkfkdkiigaaGreatDoor

namespace Go.Proofs.YtobhjkfkdkiigaaGreatDoor
open Go.RowKit HP NP
def RetE (E : Int) (w : World) (e : Ending) (w' : World) : Prop := e = .returned (.tuple #[.int .i64 0, .int .i64 E]) ∧ Below w.heap.size w w'
theorem WalkPost.op {B p q b L : Nat} {S0 : NS} {T : Nat → (Nat → Bool) → Bool} {C : Nat → Nat} {f k n : Nat} {S : NS} {w0 w w' : World} {e : Ending} (h : WalkPost B p q b L S0 T C f k S w e w') (h0 : Below w0.heap.size w0 w) (hb : w0.heap.size ≤ b) (hn : tot C f ≤ n) : OpPost B p q S (T k) n w0 e w' := by
  obtain ⟨S', m', h1, h2, _, _, h5, h6⟩ := h
  have hk : Kp TO B w0 w' := by
    refine ⟨h5.os.trans h0.os, h5.tape.trans h0.tape, h5.output.trans h0.output, Nat.le_trans h0.size h5.size, fun i hi hn => ?_⟩
    have e0 := h0.block i hi
    refine (h5.block i (Nat.lt_of_lt_of_le hi h0.size) ?_).trans e0
    rintro (⟨a1, cs, t, f, a2, a3⟩ | a)
    · exact hn ⟨a1, cs, t, f, by rw [← e0]; exact a2, a3⟩
    · omega
  refine ⟨S', h1, h2, hk, ?_⟩
  rcases h6 with ⟨k', h7, h8⟩ | ⟨h7, h8⟩
  · exact .inl ⟨k', h7, h8.cong (fun _ => rfl) hn⟩
  · exact .inr ⟨h7, h8.mono hn⟩
theorem mayE_ok {S : NS} {vs ks : List Int} (h1 : vs.length ≤ 256) (h2 : vs.all (vOk S) = true) (h3 : ks.all (isK S.l) = true) : mayE S vs ks = 0 := by unfold mayE; rw [decide_eq_true h1, h2, h3]; rfl
theorem vOk_nat {S : NS} {v : Nat} (h : v < S.vars) : vOk S (v : Int) = true := by unfold vOk; simp; omega
end Go.Proofs.YtobhjkfkdkiigaaGreatDoor

namespace Go.Proofs.YtobhjkfkdkiigaaGreatDoor
open Go.RowKit HP NP
/-! ### a set of any numbers -/
def setZ (s : Int → Bool) : Lit → Option Value
  | .int .i64 z => if s z then some (.bool true) else none
  | _ => none
theorem setZ_at (s : Int → Bool) (z : Int) : setZ s (.int .i64 z) = if s z then some (.bool true) else none := rfl
def putZ (s : Int → Bool) (z : Int) : Int → Bool := fun x => decide (x = z) || s x
theorem setZ_set (s : Int → Bool) (z : Int) : setF (setZ s) (.int .i64 z) (.bool true) = setZ (putZ s z) := by
  funext l
  unfold setF
  by_cases e : l = .int .i64 z
  · subst e
    simp [setZ, putZ, Lit.sameKey]
  · rw [Maps.sameKey_ne e]
    simp only [Bool.false_eq_true, if_false]
    cases l with
    | int kd x =>
      cases kd
      case i64 =>
        have : x ≠ z := by rintro rfl; exact e rfl
        simp [setZ, putZ, this]
      all_goals rfl
    | _ => rfl
/-- how many numbers there are, each once -/
def dcnt : List Int → Nat
  | [] => 0
  | x :: t => if t.contains x then dcnt t else dcnt t + 1
theorem dcnt_le (l : List Int) : dcnt l ≤ l.length := by
  induction l with
  | nil => exact Nat.le_refl _
  | cons x t ih => rw [dcnt]; split <;> simp <;> omega
theorem dcnt_nodup {l : List Int} (h : l.Nodup) : dcnt l = l.length := by
  induction l with
  | nil => rfl
  | cons x t ih =>
    rw [List.nodup_cons] at h
    rw [dcnt, if_neg (by simpa using h.1), ih h.2]; rfl
theorem keyZ (z : Int) (h : (Lit.int .i64 z).wf = true) : keyOf Tryz.prog 3 (.int .i64 z) = some (.int .i64 z) := Maps.keyOf_int_mk Tryz.underlying3 h
def ZSet (w : World) (b n : Nat) (s : Int → Bool) : Prop := MapAt w Tryz.prog 3 b n (setZ s)
theorem rev_take (vs : List Int) (k : Nat) (x : Int) (hk : vs[k]? = some x) : (vs.take (k + 1)).reverse = x :: (vs.take k).reverse := by
  have hkl : k < vs.length := by rcases Nat.lt_or_ge k vs.length with h | h; exact h; rw [List.getElem?_eq_none h] at hk; cases hk
  have hKe : vs[k] = x := by rw [List.getElem?_eq_getElem hkl] at hk; injection hk
  rw [List.take_succ_eq_append_getElem hkl, List.reverse_append, hKe]; rfl
theorem setZ_none : setZ (fun _ => false) = fun _ => none := by
  funext l
  cases l with
  | int kd z => cases kd <;> rfl
  | _ => rfl
set_option maxRecDepth 100000 in
set_option maxHeartbeats 1600000 in
theorem set_ok (w : World) (va : Option Addr) (vs : List Int) (c : Nat) (hl : vs.length ≤ 300) (hv : Cells w va (vs.map fun k => .int .i64 k)) (hwf : ∀ z ∈ vs, (Lit.int .i64 z).wf = true) :
    Calls Tryz.prog 69 #[.slice va vs.length c] w fun e w' => ∃ b, e = .returned (.map (some b)) ∧ w.heap.size ≤ b ∧ ZSet w' b (dcnt vs.reverse) (fun z => vs.reverse.contains z) ∧ Below w.heap.size w w' := by
  have HV := Lib.hid hv; have HWF := Lib.hid hwf
  have hmk := @run_makeMap Tryz.prog
  obtain ⟨N, hN⟩ : ∃ N, vs.length = N := ⟨_, rfl⟩
  have HN := Lib.hid hN
  rw [hN] at hl ⊢
  clear hv hwf hN
  go_enter Tryz.func69, Tryz.ntmps69
  go_wp2_with fail
  clear hmk
  go_loopg [9] N (fun m x wr => ∃ k : Nat, m + k = N ∧ x = .int .i64 (k : Int) ∧ ZSet wr w.heap.size (dcnt (vs.take k).reverse) (fun z => (vs.take k).reverse.contains z) ∧ Below w.heap.size w wr)
  case atStart =>
    refine ⟨0, rfl, rfl, ?_, (Below.refl _ _).alloc (Nat.le_refl _) _⟩
    have h := MapAt.made w Tryz.prog 3
    unfold ZSet
    have e : (fun z => ((vs.take 0).reverse).contains z) = fun _ => false := by funext z; simp
    rw [e, setZ_none]
    exact h
  case round =>
    obtain ⟨k, hm, rfl, hz, hb⟩ := hrel
    have HM := Lib.hid hm; have HZ := Lib.hid hz; have HB := Lib.hid hb
    have hbl := hz.lt
    have hsz := hb.size
    clear hm hz hb
    by_cases hlt : k < N
    · obtain ⟨K, hK⟩ : ∃ K, vs[k]? = some K := ⟨_, List.getElem?_eq_getElem (by rw [HN.out]; exact hlt)⟩
      obtain ⟨xb, xo, rfl, hxl, hxc⟩ := (HV.out.below HB.out).at_ (k := k) (v := .int .i64 K) (by rw [List.getElem?_map, hK]; rfl)
      have HKEY := Lib.hid (keyZ K (HWF.out K (List.mem_of_getElem? hK)))
      have hrt := rev_take vs k K hK
      have hnn : (if (setZ (fun z => (vs.take k).reverse.contains z) (.int .i64 K)).isSome then dcnt (vs.take k).reverse else dcnt (vs.take k).reverse + 1) = dcnt (vs.take (k + 1)).reverse := by
        rw [hrt, dcnt, setZ_at]
        cases (vs.take k).reverse.contains K <;> rfl
      have hss : putZ (fun z => (vs.take k).reverse.contains z) K = fun z => (vs.take (k + 1)).reverse.contains z := by
        rw [hrt]
        funext z
        unfold putZ
        simp
      have hmx : dcnt (vs.take k).reverse < maxLen := by
        have := dcnt_le (vs.take k).reverse
        simp at this
        unfold maxLen; omega
      obtain ⟨s, hs⟩ : ∃ s : Int → Bool, s = fun z => (vs.take k).reverse.contains z := ⟨_, rfl⟩
      obtain ⟨n, hn⟩ : ∃ n, n = dcnt (vs.take k).reverse := ⟨_, rfl⟩
      obtain ⟨n', hn'⟩ : ∃ n', n' = dcnt (vs.take (k + 1)).reverse := ⟨_, rfl⟩
      rw [← hs, ← hn] at HZ
      rw [← hs] at hss
      rw [← hn] at hmx
      rw [← hn, ← hn', setZ_at] at hnn
      rw [show ((vs.take k).reverse.contains K) = s K by rw [hs]] at hnn
      rw [← setZ_at] at hnn
      have HN' := Lib.hid hn'
      clear hs hn hn'
      have HNN := Lib.hid hnn; have HSS := Lib.hid hss; have HMX := Lib.hid hmx
      clear hK hrt hnn hss hmx
      go_wp2_with (at_mapUpdate; refine wpList_msetn rfl (.tmp 13) (.tmp 14) (.const (.bool true)) 106 rfl 4 (Maps.int_keyed Tryz.underlying3) Tryz.underlying106 rfl HZ.out HMX.out _ (.bool true) _ rfl rfl HKEY.out _ HNN.out ?_)
      rw [setZ_set]
      intro w2 hz2 hg2
      have HZ2 := Lib.hid (show ZSet w2 w.heap.size n' (putZ s K) from hz2)
      have HB2 := Lib.hid (HB.out.grown hg2 (by omega) (fun j hj => by injection hj with hj; omega))
      clear hz2 hg2
      go_wp2_with fail
      go_roundg (N - (k + 1))
      case measure => have := HM.out; omega
      case rel => exact ⟨k + 1, by have := HM.out; omega, by go_num, by have := HZ2.out; rw [HSS.out, HN'.out] at this; exact this, HB2.out⟩
    · have hk2 : k = N := by have := HM.out; omega
      have hz2 := HZ.out
      rw [List.take_of_length_le (by rw [HN.out]; omega)] at hz2
      have HZ2 := Lib.hid hz2
      clear hlt hz2
      subst hk2
      go_wp2_with fail
      go_ret
      exact ⟨_, rfl, Nat.le_refl _, HZ2.out, HB.out⟩
end Go.Proofs.YtobhjkfkdkiigaaGreatDoor

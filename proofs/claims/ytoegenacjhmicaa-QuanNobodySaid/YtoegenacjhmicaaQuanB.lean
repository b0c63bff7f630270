/- Layer 5: New, Ops, may; a node made upon two that say what is asked (mk_step), Ite and Or below a variable; Restrict. -/
import Derived.Test.YtoegenacjhmicaaQuanM
namespace Go.Proofs.Ytoegenacjhmicaa
open Go.RowKit HP NP
set_option maxHeartbeats 400000 in
theorem qnew_ok (w : World) (B p q : Nat) (S : NS) (h : OpsM w B p q S) : Calls Try.prog 18 #[.pointer (some ⟨q, 0, none⟩)] w fun e w' => ∃ qn, e = .returned (.tuple #[.pointer (some ⟨qn, 0, none⟩), .int .i64 0]) ∧ QuBlk w' qn p q ∧ w.heap.size ≤ qn ∧ Below w.heap.size w w' := by
  have HO := Lib.hid (ostore_ok w B p q S h)
  clear h
  go_enter Try.func18, Try.ntmps18
  go_wp2_with fail
  refine HO.out.mono ?_
  rintro e w' ⟨rfl, rfl⟩
  go_wp2_with fail
  refine HO.out.mono ?_
  rintro e w' ⟨rfl, rfl⟩
  go_wp2_with fail
  go_ret2
  exact ⟨w.heap.size, rfl, Blk.new_ w 55 #[.pointer (some ⟨q, 0, none⟩), .pointer (some ⟨p, 0, none⟩)], Nat.le_refl _, (Below.refl _ _).alloc (Nat.le_refl _) _⟩
set_option maxHeartbeats 400000 in
theorem qnew_no (w : World) (a : Option Addr) (h : NoOps w a) : Calls Try.prog 18 #[.pointer a] w fun e w' => e = .returned (.tuple #[.pointer none, .int .i64 1]) ∧ w = w' := by
  have HO := Lib.hid (nostore w a h)
  clear h
  go_enter Try.func18, Try.ntmps18
  go_wp2_with fail
  refine HO.out.mono ?_
  rintro e w' ⟨rfl, rfl⟩
  go_wp2_with fail
  go_ret2
  exact ⟨rfl, rfl⟩
theorem qops_ok (w : World) (qn p q : Nat) (h : QuBlk w qn p q) : Calls Try.prog 20 #[.pointer (some ⟨qn, 0, none⟩)] w fun e w' => e = .returned (.pointer (some ⟨q, 0, none⟩)) ∧ w = w' := by
  have c0 : w.cell? ⟨qn, 0, none⟩ = some (.pointer (some ⟨q, 0, none⟩)) := h.cell 0
  have hl := h.lt
  clear h
  go_enter Try.func20, Try.ntmps20
  go_wp2
  go_ret
  exact ⟨rfl, rfl⟩
/-- nil, or Quan of no operations -/
def NoQu (w : World) (a : Option Addr) : Prop := a = none ∨ ∃ qn, a = some ⟨qn, 0, none⟩ ∧ Blk w qn 55 #[.pointer none, .pointer none]
theorem NoQu.below {w w' : World} {a : Option Addr} (h : NoQu w a) (hb : Below w.heap.size w w') : NoQu w' a := by
  rcases h with h | ⟨q, h, hq⟩
  · exact .inl h
  · exact .inr ⟨q, h, hq.below hb hq.lt⟩
theorem qops_no (w : World) (a : Option Addr) (h : NoQu w a) : Calls Try.prog 20 #[.pointer a] w fun e w' => e = .returned (.pointer none) ∧ w = w' := by
  rcases h with rfl | ⟨qn, rfl, h⟩
  · go_enter Try.func20, Try.ntmps20
    go_wp2
    go_ret
    exact ⟨rfl, rfl⟩
  · have c0 : w.cell? ⟨qn, 0, none⟩ = some (.pointer none) := h.cell 0
    have hl := h.lt
    clear h
    go_enter Try.func20, Try.ntmps20
    go_wp2
    go_ret
    exact ⟨rfl, rfl⟩
set_option maxHeartbeats 400000 in
theorem qmay_nobody (w : World) (a : Option Addr) (h : NoQu w a) (va na : Option Addr) (n c n' c' : Nat) : Calls Try.prog 41 #[.pointer a, .slice va n c, .slice na n' c'] w fun e w' => e = .returned (.int .i64 1) ∧ w = w' := by
  rcases h with rfl | ⟨qn, rfl, h⟩
  · go_enter Try.func41, Try.ntmps41
    go_wp2
    go_ret
    exact ⟨rfl, rfl⟩
  · have c1 : w.cell? ⟨qn, 1, none⟩ = some (.pointer none) := h.cell 1
    have hl := h.lt
    clear h
    go_enter Try.func41, Try.ntmps41
    go_wp2
    go_ret
    exact ⟨rfl, rfl⟩
/-! ### may -/
def vOk (S : NS) (v : Int) : Bool := decide (0 ≤ v) && decide (v < S.vars)
def mayE (S : NS) (vs ks : List Int) : Int := if decide (vs.length ≤ 256) && vs.all (vOk S) then (if ks.all (isK S.l) then 0 else 3) else 1
theorem all_take_succ {α : Type} (f : α → Bool) (l : List α) (k : Nat) (x : α) (hk : l[k]? = some x) : (l.take (k + 1)).all f = ((l.take k).all f && f x) := by
  have hkl : k < l.length := by rcases Nat.lt_or_ge k l.length with h | h; exact h; rw [List.getElem?_eq_none h] at hk; cases hk
  have hKe : l[k] = x := by rw [List.getElem?_eq_getElem hkl] at hk; injection hk
  rw [List.take_succ_eq_append_getElem hkl, List.all_append, hKe]
  simp
theorem all_false {α : Type} (f : α → Bool) (l : List α) (k : Nat) (x : α) (hk : l[k]? = some x) (hf : f x = false) : l.all f = false := by
  cases h : l.all f with
  | false => rfl
  | true => rw [List.all_eq_true] at h; have := h x (List.mem_of_getElem? hk); rw [hf] at this; cases this
set_option maxRecDepth 100000 in
set_option maxHeartbeats 3200000 in
theorem qmay_ok (w : World) (B p q qn : Nat) (S : NS) (h : Sto w B p S) (hq : QuBlk w qn p q) (va na : Option Addr) (vs ks : List Int) (c c' : Nat) (hvl : vs.length ≤ 300) (hkl : ks.length ≤ 4) (hv : Cells w va (vs.map fun k => .int .i64 k)) (hk : Cells w na (ks.map fun k => .int .i64 k)) :
    Calls Try.prog 41 #[.pointer (some ⟨qn, 0, none⟩), .slice va vs.length c, .slice na ks.length c'] w fun e w' => e = .returned (.int .i64 (mayE S vs ks)) ∧ ∃ n, w' = w.drewN n := by
  have HS := Lib.hid h; have HV := Lib.hid hv; have HK := Lib.hid hk
  have c1 : w.cell? ⟨qn, 1, none⟩ = some (.pointer (some ⟨p, 0, none⟩)) := hq.cell 1
  have hql := hq.lt
  obtain ⟨N, hN⟩ : ∃ N, vs.length = N := ⟨_, rfl⟩
  obtain ⟨M, hM⟩ : ∃ M, ks.length = M := ⟨_, rfl⟩
  have HN := Lib.hid hN; have HMM := Lib.hid hM
  rw [hN] at hvl ⊢
  rw [hM] at hkl ⊢
  clear h hq hv hk hN hM
  by_cases hbig : 256 < N
  · have HE : Hid (mayE S vs ks = 1) := Lib.hid (by unfold mayE; rw [decide_eq_false (by rw [HN.out]; omega)]; rfl)
    go_enter Try.func41, Try.ntmps41
    go_wp2_with fail
    go_ret
    exact ⟨ret_int HE.out.symm, 0, rfl⟩
  have hbd : decide (256 < N) = false := decide_eq_false hbig
  go_enter Try.func41, Try.ntmps41
  go_wp2_with fail
  go_loopg [31] N (fun m x wr => ∃ k n : Nat, m + k = N ∧ x = .int .i64 (k : Int) ∧ wr = w.drewN n ∧ (vs.take k).all (vOk S) = true)
  case atStart => exact ⟨0, 0, rfl, rfl, rfl, rfl⟩
  case round =>
    obtain ⟨k, n, hm, rfl, rfl, hall⟩ := hrel
    have HM := Lib.hid hm; have HALL := Lib.hid hall
    clear hm hall
    by_cases hlt : k < N
    · obtain ⟨K, hK⟩ : ∃ K, vs[k]? = some K := ⟨_, List.getElem?_eq_getElem (by rw [HN.out]; exact hlt)⟩
      obtain ⟨xb, xo, rfl, hxl, hxc⟩ := HV.out.at_ (k := k) (v := .int .i64 K) (by rw [List.getElem?_map, hK]; rfl)
      have HKK := Lib.hid hK
      clear hK
      by_cases h0 : K < 0
      · have HE : Hid (mayE S vs ks = 1) := Lib.hid (by unfold mayE; rw [all_false _ _ _ _ HKK.out (by unfold vOk; rw [decide_eq_false (by omega)]; rfl), Bool.and_false]; rfl)
        go_wp2_with fail
        go_ret
        exact ⟨ret_int HE.out.symm, n, rfl⟩
      · by_cases h1 : K < (S.vars : Int)
        · have h1' : ¬ (S.vars : Int) ≤ K := by omega
          have HNX : Hid ((vs.take (k + 1)).all (vOk S) = true) := Lib.hid (by rw [all_take_succ _ _ _ _ HKK.out, HALL.out]; unfold vOk; rw [decide_eq_true (by omega), decide_eq_true h1]; rfl)
          go_wp2_with fail
          refine (nvars_ok (w.drewN n) B p S (HS.out.below (bdN' w n))).mono ?_
          rintro e w' ⟨rfl, rfl⟩
          go_wp2_with fail
          go_roundg (N - (k + 1))
          case measure => have := HM.out; omega
          case rel => exact ⟨k + 1, n, by have := HM.out; omega, by go_num, rfl, HNX.out⟩
        · have h1' : (S.vars : Int) ≤ K := by omega
          have HE : Hid (mayE S vs ks = 1) := Lib.hid (by unfold mayE; rw [all_false _ _ _ _ HKK.out (by unfold vOk; rw [decide_eq_false h1, Bool.and_false]), Bool.and_false]; rfl)
          go_wp2_with fail
          refine (nvars_ok (w.drewN n) B p S (HS.out.below (bdN' w n))).mono ?_
          rintro e w' ⟨rfl, rfl⟩
          go_wp2_with fail
          go_ret
          exact ⟨ret_int HE.out.symm, n, rfl⟩
    · have hk2 : k = N := by have := HM.out; omega
      have HVS : Hid (mayE S vs ks = if ks.all (isK S.l) then 0 else 3) := Lib.hid (by
        have hall := HALL.out
        rw [List.take_of_length_le (by rw [HN.out]; omega)] at hall
        unfold mayE; rw [hall, decide_eq_true (by rw [HN.out]; omega)]; rfl)
      clear hlt
      subst hk2
      go_wp2_with fail
      go_loopg [49] M (fun m x wr => ∃ i n : Nat, m + i = M ∧ x = .int .i64 (i : Int) ∧ wr = w.drewN n ∧ (ks.take i).all (isK S.l) = true)
      case atStart => exact ⟨0, n, rfl, rfl, rfl, rfl⟩
      case round =>
        obtain ⟨i, n, hm, rfl, rfl, hall⟩ := hrel
        have HM2 := Lib.hid hm; have HALL2 := Lib.hid hall
        clear hm hall
        by_cases hlt : i < M
        · obtain ⟨K, hK⟩ : ∃ K, ks[i]? = some K := ⟨_, List.getElem?_eq_getElem (by rw [HMM.out]; exact hlt)⟩
          obtain ⟨xb, xo, rfl, hxl, hxc⟩ := HK.out.at_ (k := i) (v := .int .i64 K) (by rw [List.getElem?_map, hK]; rfl)
          have HKK := Lib.hid hK
          have HA := Lib.hid (nask_ok (w.drewN n) B p S (HS.out.below (bdN' w n)) K)
          clear hK
          cases hisK : isK S.l K with
          | true =>
            have HNX : Hid ((ks.take (i + 1)).all (isK S.l) = true) := Lib.hid (by rw [all_take_succ _ _ _ _ HKK.out, HALL2.out, hisK]; rfl)
            rw [askV_yes hisK] at HA
            clear hisK
            go_wp2_with fail
            refine HA.out.mono ?_
            rintro e w' ⟨rfl, n2, rfl⟩
            go_wp2_with fail
            go_roundg (M - (i + 1))
            case measure => have := HM2.out; omega
            case rel => exact ⟨i + 1, n + n2, by have := HM2.out; omega, by go_num, rfl, HNX.out⟩
          | false =>
            have HE : Hid (mayE S vs ks = 3) := Lib.hid (by rw [HVS.out, all_false _ _ _ _ HKK.out hisK]; rfl)
            rw [askV_no hisK] at HA
            clear hisK
            go_wp2_with fail
            refine HA.out.mono ?_
            rintro e w' ⟨rfl, n2, rfl⟩
            go_wp2_with fail
            go_ret
            exact ⟨ret_int HE.out.symm, _, rfl⟩
        · have HE : Hid (mayE S vs ks = 0) := Lib.hid (by
            have hall := HALL2.out
            rw [List.take_of_length_le (by rw [HMM.out]; omega)] at hall
            rw [HVS.out, hall]; rfl)
          have hi2 : i = M := by have := HM2.out; omega
          clear hlt
          subst hi2
          go_wp2_with fail
          go_ret
          exact ⟨ret_int HE.out.symm, n, rfl⟩
end Go.Proofs.Ytoegenacjhmicaa
namespace Go.Proofs.Ytoegenacjhmicaa
open Go.RowKit HP NP
theorem mk_step (w : World) (B p q : Nat) (S : NS) (h : Sto w B p S) (ho : OpsM w B p q S) (hB : B ≤ w.heap.size) (v lo hi : Nat) (gl gh : (Nat → Bool) → Bool) (hl : Den S lo gl) (hh : Den S hi gh) (fl : From gl (v + 1)) (fh : From gh (v + 1)) (hv : v < S.vars) :
    Calls Try.prog 35 #[.pointer (some ⟨p, 0, none⟩), .int .i64 (v : Int), .int .i64 (lo : Int), .int .i64 (hi : Int)] w (OpPost B p q S (fun ρ => if ρ v then gh ρ else gl ρ) 1 w) := by
  refine (nmk_ok w B p S h hB (v : Int) (lo : Int) (hi : Int)).mono ?_
  rintro e w' ⟨rfl, hs, hk⟩
  rcases mkS_any h.wf hv hl.is hh.is (hl.ge h.wf fl hv) (hh.ge h.wf fh hv) with ⟨S', k, h5, h6, h7⟩ | ⟨h5, h6⟩
  · rw [h5] at hs ⊢
    exact ⟨S', hs, (ho.kb hk.kb rfl rfl).ext h6.ext h.wf h6.wf h7, hk.mono to_tn (Nat.le_refl _), .inl ⟨k, rfl, ⟨h6.wf, h6.ext, ⟨h6.is, fun ρ => by rw [h6.says, hl.says, hh.says]⟩, h6.cnt, h6.pin, h7⟩⟩⟩
  · rw [h5] at hs ⊢
    exact ⟨S, hs, ho.kb hk.kb rfl rfl, hk.mono to_tn (Nat.le_refl _), .inr ⟨rfl, ⟨h.wf, Ext.refl _, by omega, fun _ => Nat.le_refl _, rfl⟩⟩⟩
set_option maxRecDepth 100000 in
set_option maxHeartbeats 1600000 in
theorem oiteU_ok (w : World) (B p q u f : Nat) (S : NS) (h : Sto w B p S) (ho : OpsM w B p q S) (hB : B ≤ w.heap.size) (a b c : Nat) (ga gb gc : (Nat → Bool) → Bool) (ha : Den S a ga) (hb : Den S b gb) (hc : Den S c gc) (hua : u ≤ (nd S.l a).v) (hub : u ≤ (nd S.l b).v) (huc : u ≤ (nd S.l c).v) (hf : S.vars ≤ u + f) (n : Nat) (hn : 2 ^ f ≤ n + 1) :
    Calls Try.prog 44 #[.pointer (some ⟨q, 0, none⟩), .int .i64 (a : Int), .int .i64 (b : Int), .int .i64 (c : Int)] w (OpPost B p q S (fun ρ => if ga ρ then gb ρ else gc ρ) n w) := by
  have HS := Lib.hid h; have HO := Lib.hid ho; have HA := Lib.hid ha; have HBB := Lib.hid hb; have HC := Lib.hid hc; have HN := Lib.hid hn; have HUA := Lib.hid hua; have HUB := Lib.hid hub; have HUC := Lib.hid huc; have HF := Lib.hid hf
  have hql := ho.lt
  have hsw := ho.2.1
  have hbl := (Below.refl w.heap.size w).alloc (Nat.le_refl _) (.cells #[.int .i64 (a : Int), .int .i64 (b : Int), .int .i64 (c : Int)] 3)
  have HM := Lib.hid (may_ok (w.alloc (.cells #[.int .i64 (a : Int), .int .i64 (b : Int), .int .i64 (c : Int)] 3)) B p q S (h.below hbl) (ho.below hbl) (by simp; omega) (some ⟨w.heap.size, 0, none⟩) [(a : Int), (b : Int), (c : Int)] 3 (by simp) (Cells.lit w _ _) (by
    intro k hk
    simp at hk
    rcases hk with rfl | rfl | rfl
    · rw [isK_nat]; exact ha.is
    · rw [isK_nat]; exact hb.is
    · rw [isK_nat]; exact hc.is))
  have HBL := Lib.hid hbl
  clear h ho ha hb hc hn hbl hua hub huc hf
  go_enter Try.func44, Try.ntmps44
  go_wp2_with fail
  refine HM.out.mono ?_
  rintro e w1 ⟨rfl, g, C, ho1, hk1⟩
  have HK1 : Hid (Kp TO B w w1) := Lib.hid ((Kp.of_below HBL.out).trans (hk1.mono to_tc (Nat.le_refl _)))
  have HS1 := Lib.hid ((HS.out.below HBL.out).kp hk1 rfl rfl rfl rfl rfl)
  have HO1 := Lib.hid ho1
  have hB1 : B ≤ w1.heap.size := by have := HK1.out.size; omega
  clear ho1 hk1
  go_wp2_with fail
  refine (ite_ok B p q g f w1 S C a b c u HS1.out HO1.out hsw hB1 HA.out.is HBB.out.is HC.out.is HUA.out HUB.out HUC.out HF.out).mono ?_
  rintro e w2 ⟨S2, C2, hs2, ho2, hk2, hr⟩
  have HS2 := Lib.hid hs2; have HO2 := Lib.hid ho2; have HK2 := Lib.hid (HK1.out.trans hk2)
  clear hs2 ho2 hk2
  rcases hr with ⟨k, rfl, hok⟩ | ⟨rfl, hno⟩
  · have HR := Lib.hid hok
    clear hok
    go_wp2_with fail
    go_ret2
    exact ⟨S2, HS2.out, HO2.out.m (by rw [HR.out.sw]; exact hsw), HK2.out, .inl ⟨k, rfl, HR.out.got HS.out.wf HA.out HBB.out HC.out (fun _ => rfl) HN.out⟩⟩
  · have HR := Lib.hid hno
    clear hno
    go_wp2_with fail
    go_ret2
    exact ⟨S2, HS2.out, HO2.out.m (by rw [HR.out.sw]; exact hsw), HK2.out, .inr ⟨rfl, HR.out.got HN.out⟩⟩
set_option maxHeartbeats 800000 in
theorem oorU_ok (w : World) (B p q u f : Nat) (S : NS) (h : Sto w B p S) (ho : OpsM w B p q S) (hB : B ≤ w.heap.size) (a b : Nat) (ga gb : (Nat → Bool) → Bool) (ha : Den S a ga) (hb : Den S b gb) (hua : From ga u) (hub : From gb u) (hu : u ≤ S.vars) (hf : S.vars ≤ u + f) (n : Nat) (hn : 2 ^ f ≤ n + 1) :
    Calls Try.prog 47 #[.pointer (some ⟨q, 0, none⟩), .int .i64 (a : Int), .int .i64 (b : Int)] w (OpPost B p q S (fun ρ => ga ρ || gb ρ) n w) := by
  have HI := Lib.hid (oiteU_ok w B p q u f S h ho hB a 1 b _ _ _ ha (Den.one h.wf) hb (ha.ge h.wf hua hu) (by rw [h.wf.v1]; exact hu) (hb.ge h.wf hub hu) hf n hn)
  clear h ho ha hb hn hf hu hua hub
  go_enter Try.func47, Try.ntmps47
  go_wp2_with fail
  refine HI.out.mono ?_
  intro e w1 hr
  have HR := Lib.hid (hr.cong (g' := fun ρ => ga ρ || gb ρ) (fun ρ => by cases ga ρ <;> rfl) (Nat.le_refl _))
  obtain ⟨k, x, rfl⟩ := opRet hr
  clear hr
  go_wp2_with fail
  go_ret2
  exact HR.out
/-! ### Restrict -/
theorem call_rs (args : Array Value) (w : World) : (callFunc 45 args).run Try.prog w = .ok (.enter 45 args) w := MuLone.run_callFunc_enter Try.func45 (by kernel_rfl) rfl args w
/-- the boxes that Restrict's function holds -/
structure RsI (p q qn h : Nat) (v : Nat) (b : Bool) (w : World) : Prop where
  qu : QuBlk w qn p q
  b0 : Blk w h 23 #[.pointer (some ⟨qn, 0, none⟩)]
  b1 : Blk w (h + 1) 3 #[.int .i64 (v : Int)]
  b2 : Blk w (h + 1 + 1) 4 #[.bool b]
theorem RsI.km {p q qn h v : Nat} {b : Bool} {B m : Nat} {w w' : World} (hi : RsI p q qn h v b w) (hm : IsMap w m) (hk : Km TO B m w w') : RsI p q qn h v b w' := ⟨hk.blk hm hi.qu rfl, hk.blk hm hi.b0 rfl, hk.blk hm hi.b1 rfl, hk.blk hm hi.b2 rfl⟩
theorem OpPost.same {B p q : Nat} {S : NS} {g : (Nat → Bool) → Bool} {n k : Nat} {w : World} (h : Sto w B p S) (ho : OpsM w B p q S) (hd : Den S k g) {e : Ending} (he : e = .returned (.tuple #[.int .i64 (k : Int), .int .i64 0])) : OpPost B p q S g n w e w :=
  ⟨S, h, ho, Kp.refl _ _ _, .inl ⟨k, he, GotOk.same h.wf hd⟩⟩
set_option maxRecDepth 100000 in
set_option maxHeartbeats 1600000 in
theorem rs1_ok (B p q qn h v : Nat) (b : Bool) (S0 : NS) (hW0 : Wf S0) (w : World) (S : NS) (k low high f : Nat) (_hf : S0.vars ≤ (nd S0.l k).v + (f + 1)) (hi : RsI p q qn h v b w) (hs : Sto w B p S) (ho : OpsM w B p q S) (hB : B ≤ w.heap.size) (he : Ext S0 S) (h2 : 2 ≤ k) (hk : isB S0.l k = true)
    (hl : Den S low (rsT S0 v b (nd S0.l k).low)) (hh : Den S high (rsT S0 v b (nd S0.l k).high)) :
    Calls Try.prog 45 #[.int .i64 ((nd S0.l k).v : Int), .int .i64 (low : Int), .int .i64 (high : Int), .pointer (some ⟨h + 1, 0, none⟩), .pointer (some ⟨h, 0, none⟩), .pointer (some ⟨h + 1 + 1, 0, none⟩)] w (OpPost B p q S (rsT S0 v b k) 1 w) := by
  obtain ⟨hv1, _, hlo, hhi, hvl, hvh⟩ := hW0.kid k h2 hk
  have c0 : w.cell? ⟨h, 0, none⟩ = some (.pointer (some ⟨qn, 0, none⟩)) := hi.b0.cell 0
  have c1 : w.cell? ⟨h + 1, 0, none⟩ = some (.int .i64 (v : Int)) := hi.b1.cell 0
  have c2 : w.cell? ⟨h + 1 + 1, 0, none⟩ = some (.bool b) := hi.b2.cell 0
  have cq : w.cell? ⟨qn, 1, none⟩ = some (.pointer (some ⟨p, 0, none⟩)) := hi.qu.cell 1
  have l0 := hi.b0.lt; have l1 := hi.b1.lt; have l2 := hi.b2.lt; have lq := hi.qu.lt
  have HRT := Lib.hid (rsT_node hW0 v b h2 hk)
  have HS := Lib.hid hs; have HO := Lib.hid ho; have HL := Lib.hid hl; have HH := Lib.hid hh
  by_cases hvv : (nd S0.l k).v = v
  · have hne : (((nd S0.l k).v : Int) != (v : Int)) = false := by rw [hvv]; simp
    have HVV := Lib.hid hvv
    clear hi hs ho he h2 hk hl hh hv1 hlo hhi hvl hvh hvv hW0
    cases b with
    | true =>
      go_enter Try.func45, Try.ntmps45
      go_wp2_with fail
      go_ret2
      exact OpPost.same HS.out HO.out (HH.out.cong (fun ρ => by rw [HRT.out ρ, if_pos HVV.out]; simp)) rfl
    | false =>
      go_enter Try.func45, Try.ntmps45
      go_wp2_with fail
      go_ret2
      exact OpPost.same HS.out HO.out (HL.out.cong (fun ρ => by rw [HRT.out ρ, if_pos HVV.out]; simp)) rfl
  · have hne : (((nd S0.l k).v : Int) != (v : Int)) = true := by rw [bne_iff_ne]; omega
    have HMK := Lib.hid (mk_step w B p q S hs ho hB (nd S0.l k).v low high _ _ hl hh ((rsT_from hW0 v b hlo).mono (by omega)) ((rsT_from hW0 v b hhi).mono (by omega)) (by rw [he.vars]; exact hv1))
    have HVV := Lib.hid hvv
    clear hi hs ho he h2 hk hl hh hv1 hlo hhi hvl hvh hvv hW0
    go_enter Try.func45, Try.ntmps45
    go_wp2_with fail
    refine HMK.out.mono ?_
    intro e w1 hr
    have HR := Lib.hid (hr.cong (g' := rsT S0 v b k) (fun ρ => by rw [HRT.out ρ, if_neg HVV.out]) (Nat.le_refl _))
    obtain ⟨x, y, rfl⟩ := opRet hr
    clear hr
    go_wp2_with fail
    go_ret2
    exact HR.out
end Go.Proofs.Ytoegenacjhmicaa

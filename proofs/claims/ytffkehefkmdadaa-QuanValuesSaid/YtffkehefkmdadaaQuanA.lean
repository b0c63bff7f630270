/- Layer 5: the contracts of New, Ops, may, set. -/
import Derived.Test.YtffkehefkmdadaaQuanM
namespace Go.Proofs.Ytffkehefkmdadaa
open Go.RowKit HP NP
set_option maxHeartbeats 400000 in
theorem qnew_ok (w : World) (B p q : Nat) (S : NS) (h : OpsM w B p q S) : Calls Try.prog 50 #[.pointer (some ⟨q, 0, none⟩)] w fun e w' => ∃ qn, e = .returned (.tuple #[.pointer (some ⟨qn, 0, none⟩), .int .i64 0]) ∧ QuBlk w' qn p q ∧ w.heap.size ≤ qn ∧ Below w.heap.size w w' := by
  have HO := Lib.hid (ostore_ok w B p q S h)
  clear h
  go_enter Try.func50, Try.ntmps50
  go_wp2_with fail
  refine HO.out.mono ?_
  rintro e w' ⟨rfl, rfl⟩
  go_wp2_with fail
  refine HO.out.mono ?_
  rintro e w' ⟨rfl, rfl⟩
  go_wp2_with fail
  go_ret2
  exact ⟨w.heap.size, rfl, Blk.new_ w 88 #[.pointer (some ⟨q, 0, none⟩), .pointer (some ⟨p, 0, none⟩)], Nat.le_refl _, (Below.refl _ _).alloc (Nat.le_refl _) _⟩
set_option maxHeartbeats 400000 in
theorem qnew_no (w : World) (a : Option Addr) (h : NoOps w a) : Calls Try.prog 50 #[.pointer a] w fun e w' => e = .returned (.tuple #[.pointer none, .int .i64 1]) ∧ w = w' := by
  have HO := Lib.hid (nostore w a h)
  clear h
  go_enter Try.func50, Try.ntmps50
  go_wp2_with fail
  refine HO.out.mono ?_
  rintro e w' ⟨rfl, rfl⟩
  go_wp2_with fail
  go_ret2
  exact ⟨rfl, rfl⟩
theorem qops_ok (w : World) (qn p q : Nat) (h : QuBlk w qn p q) : Calls Try.prog 49 #[.pointer (some ⟨qn, 0, none⟩)] w fun e w' => e = .returned (.pointer (some ⟨q, 0, none⟩)) ∧ w = w' := by
  have c0 : w.cell? ⟨qn, 0, none⟩ = some (.pointer (some ⟨q, 0, none⟩)) := h.cell 0
  have hl := h.lt
  clear h
  go_enter Try.func49, Try.ntmps49
  go_wp2
  go_ret
  exact ⟨rfl, rfl⟩
/-- nil, or Quan of no operations -/
def NoQu (w : World) (a : Option Addr) : Prop := a = none ∨ ∃ qn, a = some ⟨qn, 0, none⟩ ∧ Blk w qn 88 #[.pointer none, .pointer none]
theorem NoQu.below {w w' : World} {a : Option Addr} (h : NoQu w a) (hb : Below w.heap.size w w') : NoQu w' a := by
  rcases h with h | ⟨q, h, hq⟩
  · exact .inl h
  · exact .inr ⟨q, h, hq.below hb hq.lt⟩
theorem qops_no (w : World) (a : Option Addr) (h : NoQu w a) : Calls Try.prog 49 #[.pointer a] w fun e w' => e = .returned (.pointer none) ∧ w = w' := by
  rcases h with rfl | ⟨qn, rfl, h⟩
  · go_enter Try.func49, Try.ntmps49
    go_wp2
    go_ret
    exact ⟨rfl, rfl⟩
  · have c0 : w.cell? ⟨qn, 0, none⟩ = some (.pointer none) := h.cell 0
    have hl := h.lt
    clear h
    go_enter Try.func49, Try.ntmps49
    go_wp2
    go_ret
    exact ⟨rfl, rfl⟩
set_option maxHeartbeats 400000 in
theorem qmay_nobody (w : World) (a : Option Addr) (h : NoQu w a) (va na : Option Addr) (n c n' c' : Nat) : Calls Try.prog 72 #[.pointer a, .slice va n c, .slice na n' c'] w fun e w' => e = .returned (.int .i64 1) ∧ w = w' := by
  rcases h with rfl | ⟨qn, rfl, h⟩
  · go_enter Try.func72, Try.ntmps72
    go_wp2
    go_ret
    exact ⟨rfl, rfl⟩
  · have c1 : w.cell? ⟨qn, 1, none⟩ = some (.pointer none) := h.cell 1
    have hl := h.lt
    clear h
    go_enter Try.func72, Try.ntmps72
    go_wp2
    go_ret
    exact ⟨rfl, rfl⟩
/-! ### may -/
def vOk (S : NS) (v : Int) : Bool := decide (0 ≤ v) && decide (v < S.vars)
def mayE (S : NS) (vs ks : List Int) : Int := if decide (vs.length ≤ 256) && vs.all (vOk S) then (if ks.all (isK S.l) then 0 else 3) else 1
theorem all_take_succ {α : Type} (f : α → Bool) (l : List α) (k : Nat) (x : α) (hk : l[k]? = some x) : (l.take (k + 1)).all f = ((l.take k).all f && f x) := by
  have hkl : k < l.length := by rcases Nat.lt_or_ge k l.length with h | h; exact h; rw [List.getElem?_eq_none h] at hk; cases hk
  have hKe : l[k] = x := by rw [List.getElem?_eq_getElem hkl] at hk; injection hk
  rw [List.take_succ_eq_append_getElem hkl, List.all_append, hKe]
  simp
theorem all_false {α : Type} (f : α → Bool) (l : List α) (k : Nat) (x : α) (hk : l[k]? = some x) (hf : f x = false) : l.all f = false := by
  cases h : l.all f with
  | false => rfl
  | true => rw [List.all_eq_true] at h; have := h x (List.mem_of_getElem? hk); rw [hf] at this; cases this
set_option maxRecDepth 100000 in
set_option maxHeartbeats 3200000 in
theorem qmay_ok (w : World) (B p q qn : Nat) (S : NS) (h : Sto w B p S) (hq : QuBlk w qn p q) (va na : Option Addr) (vs ks : List Int) (c c' : Nat) (hvl : vs.length ≤ 300) (hkl : ks.length ≤ 4) (hv : Cells w va (vs.map fun k => .int .i64 k)) (hk : Cells w na (ks.map fun k => .int .i64 k)) :
    Calls Try.prog 72 #[.pointer (some ⟨qn, 0, none⟩), .slice va vs.length c, .slice na ks.length c'] w fun e w' => e = .returned (.int .i64 (mayE S vs ks)) ∧ ∃ n, w' = w.drewN n := by
  have HS := Lib.hid h; have HV := Lib.hid hv; have HK := Lib.hid hk
  have c1 : w.cell? ⟨qn, 1, none⟩ = some (.pointer (some ⟨p, 0, none⟩)) := hq.cell 1
  have hql := hq.lt
  obtain ⟨N, hN⟩ : ∃ N, vs.length = N := ⟨_, rfl⟩
  obtain ⟨M, hM⟩ : ∃ M, ks.length = M := ⟨_, rfl⟩
  have HN := Lib.hid hN; have HMM := Lib.hid hM
  rw [hN] at hvl ⊢
  rw [hM] at hkl ⊢
  clear h hq hv hk hN hM
  by_cases hbig : 256 < N
  · have HE : Hid (mayE S vs ks = 1) := Lib.hid (by unfold mayE; rw [decide_eq_false (by rw [HN.out]; omega)]; rfl)
    go_enter Try.func72, Try.ntmps72
    go_wp2_with fail
    go_ret
    exact ⟨ret_int HE.out.symm, 0, rfl⟩
  have hbd : decide (256 < N) = false := decide_eq_false hbig
  go_enter Try.func72, Try.ntmps72
  go_wp2_with fail
  go_loopg [31] N (fun m x wr => ∃ k n : Nat, m + k = N ∧ x = .int .i64 (k : Int) ∧ wr = w.drewN n ∧ (vs.take k).all (vOk S) = true)
  case atStart => exact ⟨0, 0, rfl, rfl, rfl, rfl⟩
  case round =>
    obtain ⟨k, n, hm, rfl, rfl, hall⟩ := hrel
    have HM := Lib.hid hm; have HALL := Lib.hid hall
    clear hm hall
    by_cases hlt : k < N
    · obtain ⟨K, hK⟩ : ∃ K, vs[k]? = some K := ⟨_, List.getElem?_eq_getElem (by rw [HN.out]; exact hlt)⟩
      obtain ⟨xb, xo, rfl, hxl, hxc⟩ := HV.out.at_ (k := k) (v := .int .i64 K) (by rw [List.getElem?_map, hK]; rfl)
      have HKK := Lib.hid hK
      clear hK
      by_cases h0 : K < 0
      · have HE : Hid (mayE S vs ks = 1) := Lib.hid (by unfold mayE; rw [all_false _ _ _ _ HKK.out (by unfold vOk; rw [decide_eq_false (by omega)]; rfl), Bool.and_false]; rfl)
        go_wp2_with fail
        go_ret
        exact ⟨ret_int HE.out.symm, n, rfl⟩
      · by_cases h1 : K < (S.vars : Int)
        · have h1' : ¬ (S.vars : Int) ≤ K := by omega
          have HNX : Hid ((vs.take (k + 1)).all (vOk S) = true) := Lib.hid (by rw [all_take_succ _ _ _ _ HKK.out, HALL.out]; unfold vOk; rw [decide_eq_true (by omega), decide_eq_true h1]; rfl)
          go_wp2_with fail
          refine (nvars_ok (w.drewN n) B p S (HS.out.below (bdN' w n))).mono ?_
          rintro e w' ⟨rfl, rfl⟩
          go_wp2_with fail
          go_roundg (N - (k + 1))
          case measure => have := HM.out; omega
          case rel => exact ⟨k + 1, n, by have := HM.out; omega, by go_num, rfl, HNX.out⟩
        · have h1' : (S.vars : Int) ≤ K := by omega
          have HE : Hid (mayE S vs ks = 1) := Lib.hid (by unfold mayE; rw [all_false _ _ _ _ HKK.out (by unfold vOk; rw [decide_eq_false h1, Bool.and_false]), Bool.and_false]; rfl)
          go_wp2_with fail
          refine (nvars_ok (w.drewN n) B p S (HS.out.below (bdN' w n))).mono ?_
          rintro e w' ⟨rfl, rfl⟩
          go_wp2_with fail
          go_ret
          exact ⟨ret_int HE.out.symm, n, rfl⟩
    · have hk2 : k = N := by have := HM.out; omega
      have HVS : Hid (mayE S vs ks = if ks.all (isK S.l) then 0 else 3) := Lib.hid (by
        have hall := HALL.out
        rw [List.take_of_length_le (by rw [HN.out]; omega)] at hall
        unfold mayE; rw [hall, decide_eq_true (by rw [HN.out]; omega)]; rfl)
      clear hlt
      subst hk2
      go_wp2_with fail
      go_loopg [49] M (fun m x wr => ∃ i n : Nat, m + i = M ∧ x = .int .i64 (i : Int) ∧ wr = w.drewN n ∧ (ks.take i).all (isK S.l) = true)
      case atStart => exact ⟨0, n, rfl, rfl, rfl, rfl⟩
      case round =>
        obtain ⟨i, n, hm, rfl, rfl, hall⟩ := hrel
        have HM2 := Lib.hid hm; have HALL2 := Lib.hid hall
        clear hm hall
        by_cases hlt : i < M
        · obtain ⟨K, hK⟩ : ∃ K, ks[i]? = some K := ⟨_, List.getElem?_eq_getElem (by rw [HMM.out]; exact hlt)⟩
          obtain ⟨xb, xo, rfl, hxl, hxc⟩ := HK.out.at_ (k := i) (v := .int .i64 K) (by rw [List.getElem?_map, hK]; rfl)
          have HKK := Lib.hid hK
          have HA := Lib.hid (nask_ok (w.drewN n) B p S (HS.out.below (bdN' w n)) K)
          clear hK
          cases hisK : isK S.l K with
          | true =>
            have HNX : Hid ((ks.take (i + 1)).all (isK S.l) = true) := Lib.hid (by rw [all_take_succ _ _ _ _ HKK.out, HALL2.out, hisK]; rfl)
            rw [askV_yes hisK] at HA
            clear hisK
            go_wp2_with fail
            refine HA.out.mono ?_
            rintro e w' ⟨rfl, n2, rfl⟩
            go_wp2_with fail
            go_roundg (M - (i + 1))
            case measure => have := HM2.out; omega
            case rel => exact ⟨i + 1, n + n2, by have := HM2.out; omega, by go_num, rfl, HNX.out⟩
          | false =>
            have HE : Hid (mayE S vs ks = 3) := Lib.hid (by rw [HVS.out, all_false _ _ _ _ HKK.out hisK]; rfl)
            rw [askV_no hisK] at HA
            clear hisK
            go_wp2_with fail
            refine HA.out.mono ?_
            rintro e w' ⟨rfl, n2, rfl⟩
            go_wp2_with fail
            go_ret
            exact ⟨ret_int HE.out.symm, _, rfl⟩
        · have HE : Hid (mayE S vs ks = 0) := Lib.hid (by
            have hall := HALL2.out
            rw [List.take_of_length_le (by rw [HMM.out]; omega)] at hall
            rw [HVS.out, hall]; rfl)
          have hi2 : i = M := by have := HM2.out; omega
          clear hlt
          subst hi2
          go_wp2_with fail
          go_ret
          exact ⟨ret_int HE.out.symm, n, rfl⟩
end Go.Proofs.Ytffkehefkmdadaa

/- Layer 4: the contracts of may, top, split. -/
import Derived.Test.YtoegenacjhmicaaOperB
namespace Go.Proofs.Ytoegenacjhmicaa
open Go.RowKit HP NP
theorem askV_yes {S : NS} {k : Int} (h : isK S.l k = true) : askV S k = .tuple #[.int .i64 ((nd S.l k.toNat).v : Int), .int .i64 ((nd S.l k.toNat).low : Int), .int .i64 ((nd S.l k.toNat).high : Int), .int .i64 0] := by unfold askV; rw [h]; rfl
theorem askV_no {S : NS} {k : Int} (h : isK S.l k = false) : askV S k = .tuple #[.int .i64 0, .int .i64 0, .int .i64 0, .int .i64 3] := by unfold askV; rw [h]; rfl
theorem OpsM.drewN {w : World} {B p q : Nat} {S : NS} (h : OpsM w B p q S) (n : Nat) : OpsM (w.drewN n) B p q S := h.below (bdN' w n)
def MayPost (B p q : Nat) (S : NS) (w : World) (e : Ending) (w' : World) : Prop := e = .returned (.int .i64 0) ∧ ∃ g C, OpsF w' B p q g S C ∧ Kp TC B w w'
set_option maxRecDepth 100000 in
set_option maxHeartbeats 1600000 in
theorem may_ok (w : World) (B p q : Nat) (S : NS) (h : Sto w B p S) (ho : OpsM w B p q S) (hB : B ≤ w.heap.size) (la : Option Addr) (ks : List Int) (c : Nat) (hl : ks.length ≤ 4) (hc : Cells w la (ks.map fun k => .int .i64 k)) (hk : ∀ k ∈ ks, isK S.l k = true) :
    Calls Try.prog 72 #[.pointer (some ⟨q, 0, none⟩), .slice la ks.length c] w (MayPost B p q S w) := by
  have HS := Lib.hid h; have HO := Lib.hid ho; have HC := Lib.hid hc; have HK := Lib.hid hk
  have hql := ho.lt
  have c0 := ho.ptr
  obtain ⟨N, hN⟩ : ∃ N, ks.length = N := ⟨_, rfl⟩
  have HN := Lib.hid hN
  rw [hN] at hl ⊢
  clear h ho hc hk hN
  go_enter Try.func72, Try.ntmps72
  go_wp2_with fail
  go_loopg [22] N (fun m x wr => ∃ k n : Nat, m + k = N ∧ x = .int .i64 (k : Int) ∧ wr = w.drewN n)
  case atStart => exact ⟨0, 0, rfl, rfl, rfl⟩
  case round =>
    obtain ⟨k, n, hm, rfl, rfl⟩ := hrel
    have HM := Lib.hid hm
    clear hm
    by_cases hlt : k < N
    · obtain ⟨K, hK⟩ : ∃ K, ks[k]? = some K := ⟨_, List.getElem?_eq_getElem (by rw [HN.out]; exact hlt)⟩
      have hisK := HK.out K (List.mem_of_getElem? hK)
      obtain ⟨xb, xo, rfl, hxl, hxc⟩ := HC.out.at_ (k := k) (v := .int .i64 K) (by rw [List.getElem?_map, hK]; rfl)
      have HA := Lib.hid (nask_ok (w.drewN n) B p S (HS.out.below (bdN' w n)) K)
      rw [askV_yes hisK] at HA
      clear hK hisK
      go_wp2_with fail
      refine HA.out.mono ?_
      rintro e w' ⟨rfl, n2, rfl⟩
      go_wp2_with fail
      go_roundg (N - (k + 1))
      case measure => have := HM.out; omega
      case rel => exact ⟨k + 1, n + n2, by have := HM.out; omega, by go_num, rfl⟩
    · have hk2 : k = N := by have := HM.out; omega
      subst hk2
      have HF := Lib.hid (fresh_ok (w.drewN n) B p q S (HS.out.below (bdN' w n)) (HO.out.drewN n) hB)
      go_wp2_with fail
      refine HF.out.mono ?_
      rintro e w' ⟨rfl, g, C, h1, h2⟩
      have H1 := Lib.hid h1; have H2 := Lib.hid h2
      clear h1 h2
      go_wp2_with fail
      go_ret
      exact ⟨rfl, g, C, H1.out, ((Kp.refl TC B w).drewN n).trans H2.out⟩
def MayNo (w : World) (e : Ending) (w' : World) : Prop := e = .returned (.int .i64 3) ∧ ∃ n, w' = w.drewN n
set_option maxRecDepth 100000 in
set_option maxHeartbeats 1600000 in
theorem may_no (w : World) (B p q : Nat) (S : NS) (h : Sto w B p S) (ho : OpsM w B p q S) (la : Option Addr) (ks : List Int) (c : Nat) (hl : ks.length ≤ 4) (hc : Cells w la (ks.map fun k => .int .i64 k)) (j : Nat) (K : Int) (hj : ks[j]? = some K) (hjK : isK S.l K = false) (hbef : ∀ i x, i < j → ks[i]? = some x → isK S.l x = true) :
    Calls Try.prog 72 #[.pointer (some ⟨q, 0, none⟩), .slice la ks.length c] w (MayNo w) := by
  have HS := Lib.hid h; have HC := Lib.hid hc; have HB := Lib.hid hbef; have HJ := Lib.hid hj; have HJK := Lib.hid hjK
  have hjl : j < ks.length := by rcases Nat.lt_or_ge j ks.length with h1 | h1; exact h1; rw [List.getElem?_eq_none h1] at hj; cases hj
  have hql := ho.lt
  have c0 := ho.ptr
  obtain ⟨N, hN⟩ : ∃ N, ks.length = N := ⟨_, rfl⟩
  have HN := Lib.hid hN
  rw [hN] at hl hjl ⊢
  clear h ho hc hbef hN hj hjK
  go_enter Try.func72, Try.ntmps72
  go_wp2_with fail
  go_loopg [22] j (fun m x wr => ∃ k n : Nat, m + k = j ∧ x = .int .i64 (k : Int) ∧ wr = w.drewN n)
  case atStart => exact ⟨0, 0, by omega, rfl, rfl⟩
  case round =>
    obtain ⟨k, n, hm, rfl, rfl⟩ := hrel
    have HM := Lib.hid hm
    clear hm
    by_cases hlt : k < j
    · obtain ⟨K2, hK⟩ : ∃ K2, ks[k]? = some K2 := ⟨_, List.getElem?_eq_getElem (by rw [HN.out]; omega)⟩
      have hisK := HB.out k K2 hlt hK
      obtain ⟨xb, xo, rfl, hxl, hxc⟩ := HC.out.at_ (k := k) (v := .int .i64 K2) (by rw [List.getElem?_map, hK]; rfl)
      have HA := Lib.hid (nask_ok (w.drewN n) B p S (HS.out.below (bdN' w n)) K2)
      rw [askV_yes hisK] at HA
      have hkN : k < N := by omega
      clear hK hisK
      go_wp2_with fail
      refine HA.out.mono ?_
      rintro e w' ⟨rfl, n2, rfl⟩
      go_wp2_with fail
      go_roundg (j - (k + 1))
      case measure => have := HM.out; omega
      case rel => exact ⟨k + 1, n + n2, by have := HM.out; omega, by go_num, rfl⟩
    · have hk2 : k = j := by have := HM.out; omega
      subst hk2
      obtain ⟨xb, xo, rfl, hxl, hxc⟩ := HC.out.at_ (k := k) (v := .int .i64 K) (by rw [List.getElem?_map, HJ.out]; rfl)
      have HA := Lib.hid (nask_ok (w.drewN n) B p S (HS.out.below (bdN' w n)) K)
      rw [askV_no HJK.out] at HA
      clear hlt
      go_wp2_with fail
      refine HA.out.mono ?_
      rintro e w' ⟨rfl, n2, rfl⟩
      go_wp2_with fail
      go_ret
      exact ⟨rfl, _, rfl⟩
set_option maxHeartbeats 1600000 in
theorem osplit_ok (w : World) (B p q : Nat) (S : NS) (h : Sto w B p S) (ho : OpsM w B p q S) (v k : Nat) (hk : isB S.l k = true) :
    Calls Try.prog 87 #[.pointer (some ⟨q, 0, none⟩), .int .i64 (v : Int), .int .i64 (k : Int)] w fun e w' => e = .returned (.tuple #[.int .i64 (sLow S v k : Int), .int .i64 (sHigh S v k : Int)]) ∧ ∃ n, w' = w.drewN n := by
  have HA := Lib.hid (nask_ok w B p S h (k : Int))
  rw [askV_yes (by rw [isK_nat]; exact hk), Int.toNat_natCast] at HA
  have hql := ho.lt
  have c0 := ho.ptr
  clear h ho hk
  unfold sLow sHigh
  by_cases e : (nd S.l k).v = v
  · rw [if_pos e, if_pos e]
    have hne : (((nd S.l k).v : Int) != (v : Int)) = false := by rw [e]; simp
    clear e
    go_enter Try.func87, Try.ntmps87
    go_wp2_with fail
    refine HA.out.mono ?_
    rintro e w' ⟨rfl, n2, rfl⟩
    go_wp2_with fail
    go_ret2
    exact ⟨rfl, _, rfl⟩
  · rw [if_neg e, if_neg e]
    have hne : (((nd S.l k).v : Int) != (v : Int)) = true := by rw [bne_iff_ne]; omega
    clear e
    go_enter Try.func87, Try.ntmps87
    go_wp2_with fail
    refine HA.out.mono ?_
    rintro e w' ⟨rfl, n2, rfl⟩
    go_wp2_with fail
    go_ret2
    exact ⟨rfl, _, rfl⟩
def minV (S : NS) : List Nat → Nat → Nat
  | [], v => v
  | k :: t, v => minV S t (min v (nd S.l k).v)
theorem minV_snoc (S : NS) (l : List Nat) (k v : Nat) : minV S (l ++ [k]) v = min (minV S l v) (nd S.l k).v := by
  induction l generalizing v with
  | nil => rfl
  | cons x t ih => exact ih _
set_option maxRecDepth 100000 in
set_option maxHeartbeats 1600000 in
theorem top_ok (w : World) (B p q : Nat) (S : NS) (h : Sto w B p S) (ho : OpsM w B p q S) (la : Option Addr) (ks : List Nat) (c : Nat) (hl : ks.length ≤ 4) (hc : Cells w la (ks.map fun k : Nat => .int .i64 (k : Int))) (hk : ∀ k ∈ ks, isB S.l k = true) :
    Calls Try.prog 86 #[.pointer (some ⟨q, 0, none⟩), .slice la ks.length c] w fun e w' => e = .returned (.int .i64 (minV S ks S.vars : Int)) ∧ ∃ n, w' = w.drewN n := by
  have HS := Lib.hid h; have HC := Lib.hid hc; have HK := Lib.hid hk
  have HV := Lib.hid (nvars_ok w B p S h)
  have hql := ho.lt
  have c0 := ho.ptr
  obtain ⟨N, hN⟩ : ∃ N, ks.length = N := ⟨_, rfl⟩
  have HN := Lib.hid hN
  rw [hN] at hl ⊢
  clear h ho hc hk hN
  go_enter Try.func86, Try.ntmps86
  go_wp2_with fail
  refine HV.out.mono ?_
  rintro e w' ⟨rfl, rfl⟩
  go_wp2_with fail
  go_loopg [5, 19] N (fun m y x wr => ∃ k n v : Nat, m + k = N ∧ y = .int .i64 (v : Int) ∧ x = .int .i64 (k : Int) ∧ wr = w.drewN n ∧ v = minV S (ks.take k) S.vars)
  case atStart => exact ⟨0, 0, _, rfl, rfl, rfl, rfl, rfl⟩
  case round =>
    obtain ⟨k, n, v, hm, rfl, rfl, rfl, hv⟩ := hrel
    have HM := Lib.hid hm; have HVV := Lib.hid hv
    clear hm hv
    by_cases hlt : k < N
    · obtain ⟨K, hK⟩ : ∃ K, ks[k]? = some K := ⟨_, List.getElem?_eq_getElem (by rw [HN.out]; exact hlt)⟩
      have hisK := HK.out K (List.mem_of_getElem? hK)
      obtain ⟨xb, xo, rfl, hxl, hxc⟩ := HC.out.at_ (k := k) (v := .int .i64 (K : Int)) (by rw [List.getElem?_map, hK]; rfl)
      have HA := Lib.hid (nask_ok (w.drewN n) B p S (HS.out.below (bdN' w n)) (K : Int))
      rw [askV_yes (by rw [isK_nat]; exact hisK), Int.toNat_natCast] at HA
      have hnext : minV S (ks.take (k + 1)) S.vars = min v (nd S.l K).v := by
        have hkl : k < ks.length := by rw [HN.out]; exact hlt
        have hKe : ks[k] = K := by rw [List.getElem?_eq_getElem hkl] at hK; injection hK
        rw [List.take_succ_eq_append_getElem hkl, minV_snoc, hKe, ← HVV.out]
      obtain ⟨y, hy⟩ : ∃ y, (nd S.l K).v = y := ⟨_, rfl⟩
      rw [hy] at HA hnext
      have HNX := Lib.hid hnext
      clear hK hisK hy hnext
      rcases Nat.lt_or_ge y v with hyv | hyv
      · have hmin : min (v : Int) (y : Int) = (y : Int) := by omega
        have HMN : Hid (min v y = y) := Lib.hid (by omega)
        go_wp2_with fail
        refine HA.out.mono ?_
        rintro e w' ⟨rfl, n2, rfl⟩
        go_wp2_with fail
        go_roundg (N - (k + 1))
        case measure => have := HM.out; omega
        case rel => exact ⟨k + 1, n + n2, y, by have := HM.out; omega, rfl, by go_num, rfl, by rw [HNX.out, HMN.out]⟩
      · have hmin : min (v : Int) (y : Int) = (v : Int) := by omega
        have HMN : Hid (min v y = v) := Lib.hid (by omega)
        go_wp2_with fail
        refine HA.out.mono ?_
        rintro e w' ⟨rfl, n2, rfl⟩
        go_wp2_with fail
        go_roundg (N - (k + 1))
        case measure => have := HM.out; omega
        case rel => exact ⟨k + 1, n + n2, v, by have := HM.out; omega, rfl, by go_num, rfl, by rw [HNX.out, HMN.out]⟩
    · have hk2 : k = N := by have := HM.out; omega
      have HV2 : Hid (v = minV S ks S.vars) := Lib.hid (by rw [HVV.out, List.take_of_length_le (by rw [HN.out]; omega)])
      clear hlt
      subst hk2
      go_wp2_with fail
      go_ret
      exact ⟨ret_int (by rw [HV2.out]), _, rfl⟩
end Go.Proofs.Ytoegenacjhmicaa

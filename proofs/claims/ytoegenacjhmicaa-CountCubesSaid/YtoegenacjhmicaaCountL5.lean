/- CountCubes: the walk. -/
import Derived.Test.YtoegenacjhmicaaCountZ
import Derived.Test.YtoegenacjhmicaaCountL3
namespace Go.Proofs.Ytoegenacjhmicaa
open Go.RowKit HP NP
/-- does a cube take in a number's first so many bits? -/
def inV4 (n : Nat) (c : List Int) (v : Nat) : Bool := (List.range v).all fun j => c[j]? == some 2 || c[j]? == some (bZ (n.testBit j))
theorem inV4_next {n : Nat} {c : List Int} {v : Nat} {x : Int} (h : c[v]? = some x) : inV4 n c (v + 1) = (inV4 n c v && (x == 2 || x == bZ (n.testBit v))) := by
  unfold inV4
  rw [List.range_succ, List.all_append, List.all_cons, List.all_nil, Bool.and_true, h]
  rfl
theorem bZ_nat (b : Bool) : bZ b = (b.toNat : Int) := by cases b <;> rfl
def inC (n : Nat) (L : List (List Int)) (i : Nat) : Nat := (L.take i).countP fun c => inV4 n c 4
theorem inC_next {n : Nat} {L : List (List Int)} {i : Nat} {c : List Int} (h : L[i]? = some c) : inC n L (i + 1) = inC n L i + (inV4 n c 4).toNat := by
  unfold inC
  rw [List.take_add_one, h, List.countP_append]
  show _ + List.countP _ [c] = _
  rw [List.countP_cons, List.countP_nil]
  cases inV4 n c 4 <;> rfl
theorem inC_all {S : NS} (h : Wf S) (h4 : S.vars = 4) {k X : Nat} (hd : Den S k (tbl X)) {n : Nat} (hn : n < 16) : inC n (cubes S k) (cubes S k).length = (X.testBit n).toNat := by
  unfold inC
  rw [List.take_length]
  exact cubes_tbl h h4 hd hn
theorem inC_le (n : Nat) (L : List (List Int)) (i : Nat) : inC n L i ≤ L.length := by
  unfold inC
  exact Nat.le_trans List.countP_le_length (by rw [List.length_take]; exact Nat.min_le_right _ _)
theorem ahd_at {L : List (List Int)} (h : L.Pairwise Ahd) {i : Nat} {a b : List Int} (ha : L[i]? = some a) (hb : L[i + 1]? = some b) : Ahd a b := by
  obtain ⟨h1, e1⟩ := List.getElem?_eq_some_iff.1 ha
  obtain ⟨h2, e2⟩ := List.getElem?_eq_some_iff.1 hb
  have := List.pairwise_iff_getElem.1 h i (i + 1) h1 h2 (by omega)
  rw [e1, e2] at this
  exact this
set_option maxRecDepth 100000 in
set_option maxHeartbeats 16000000 in
theorem countCubes_walk (w : World) (z : Int) (_zw : (Lit.int .i64 z).wf = true) : Calls Try.prog 6 #[.int .i64 z] w (Fine6 w) := by
  obtain ⟨X, hX, hX16⟩ := low6 z
  have HXZ := Lib.hid hX
  go_enter Try.func6, Try.ntmps6
  go_wp2_with fail
  refine (begun6 w).mono ?_
  rintro e w1 ⟨p, rfl, hs1⟩
  have HS1 := Lib.hid hs1
  clear hs1
  go_wp2_with fail
  refine (made6 HS1.out hX16).mono ?_
  rintro e w2 ⟨S, k, rfl, hs2, hd2⟩
  have HS2 := Lib.hid hs2; have HD2 := Lib.hid hd2
  have HCU := Lib.hid (cubes_ok w2 w.heap.size p S hs2.sto (by rw [hs2.v4]; decide) (k : Int) 16)
  have HFEW := Lib.hid (cubes_few hs2.sto.wf hs2.v4 hd2.is)
  clear hs2 hd2
  go_wp2_with fail
  refine HCU.out.mono ?_
  rintro e W3 ⟨hb3, ⟨h, _⟩ | ⟨_, y, sls, rfl, hr3⟩⟩
  · refine absurd (cubE_ok (by decide) (by rw [isK_nat]; exact HD2.out.is) ?_) h
    rw [Int.toNat_natCast]
    have := HFEW.out
    omega
  rw [Int.toNat_natCast] at hr3
  obtain ⟨ya, yc, rfl⟩ := own_shape hr3.ow
  obtain ⟨L, hL⟩ : ∃ L, cubes S k = L := ⟨_, rfl⟩
  have h4c : ∀ c ∈ L, c.length = 4 := by
    rw [← hL]
    intro c hc
    rw [cubes_len HS2.out.sto.wf HD2.out.is c hc, HS2.out.v4]
  have hRA : RowsAt W3 ya L := by
    rw [← hL]
    exact hr3.rowsAt (fun l hl => by
      rw [cubes_len HS2.out.sto.wf HD2.out.is l hl, HS2.out.v4]; decide)
  have HALL : Hid (∀ n, n < 16 → inC n L L.length = (X.testBit n).toNat) := Lib.hid (fun n hn => by
    rw [← hL]; exact inC_all HS2.out.sto.wf HS2.out.v4 HD2.out hn)
  have HORD : Hid (L.Pairwise Ahd) := Lib.hid (by rw [← hL]; exact cubes_order HS2.out.sto.wf HD2.out.is)
  have HS3 := Lib.hid (HS2.out.below hb3)
  obtain ⟨M, hM⟩ : ∃ M, L.length = M := ⟨_, rfl⟩
  have hM16 : M ≤ 16 := by rw [← hM, ← hL]; exact HFEW.out
  have H4 := Lib.hid h4c; have HR := Lib.hid hRA; have HL := Lib.hid hL; have HM := Lib.hid hM
  rw [hL, hM]
  rw [hM] at HALL
  clear hb3 hr3 hL h4c hRA hM HCU HFEW
  go_wp2_with fail
  go_loopg [9] 16 (fun mm x wr => ∃ n : Nat, mm + n = 16 ∧ x = .int .i64 (n : Int) ∧ ∃ q, wr = W3.drewN q)
  case atStart => exact ⟨0, rfl, rfl, 0, rfl⟩
  case round =>
    obtain ⟨n, hm, rfl, q, rfl⟩ := hrel
    have HMN := Lib.hid hm
    clear hm
    by_cases hn : n < 16
    · have HAN := Lib.hid (HALL.out n hn)
      have HZB := Lib.hid (zbit6 HXZ.out hn)
      rw [← HAN.out] at HZB
      go_wp2_with fail
      go_loopg [10, 11] M (fun mm x y wr => ∃ i : Nat, mm + i = M ∧ x = .int .i64 (inC n L i : Int) ∧ y = .int .i64 (i : Int) ∧ ∃ q, wr = W3.drewN q)
      case atStart => exact ⟨0, by omega, rfl, rfl, q, rfl⟩
      case round =>
        obtain ⟨i, hm, rfl, rfl, q1, rfl⟩ := hrel
        have HMI := Lib.hid hm
        clear hm
        obtain ⟨kc, hkc⟩ : ∃ kc, inC n L i = kc := ⟨_, rfl⟩
        have hkc16 : kc ≤ M := by rw [← hkc, ← HM.out]; exact inC_le n L i
        have HKC := Lib.hid hkc
        rw [hkc]
        clear hkc
        by_cases hi : i < M
        · obtain ⟨c, hc⟩ : ∃ c, L[i]? = some c := ⟨_, List.getElem?_eq_getElem (by rw [HM.out]; exact hi)⟩
          have hcl := H4.out c (List.mem_of_getElem? hc)
          obtain ⟨b1, o1, ad, cp, rfl, hb1, k1, hcc, _⟩ := HR.out.at_ hc
          rw [hcl] at k1
          have HCC := Lib.hid hcc; have HCL := Lib.hid hcl
          have HNX := Lib.hid (inC_next (n := n) hc)
          rw [HKC.out] at HNX
          clear hc hcl hcc
          go_wp2_with fail
          go_loopg [12, 13] 4 (fun mm o x wr => ∃ v : Nat, mm + v = 4 ∧ o = .bool (inV4 n c v) ∧ x = .int .i64 (v : Int) ∧ ∃ q, wr = W3.drewN q)
          case atStart => exact ⟨0, rfl, rfl, rfl, q1, rfl⟩
          case round =>
            obtain ⟨v, hm, rfl, rfl, q2, rfl⟩ := hrel
            have HMV := Lib.hid hm
            clear hm
            obtain ⟨o, ho⟩ : ∃ o, inV4 n c v = o := ⟨_, rfl⟩
            rw [ho]
            by_cases hv : v < 4
            · obtain ⟨x, hx⟩ : ∃ x, c[v]? = some x := ⟨_, List.getElem?_eq_getElem (by rw [HCL.out]; exact hv)⟩
              obtain ⟨b2, o2, rfl, hb2, k2⟩ := HCC.out.at_ (zV_at hx)
              have hnx := inV4_next (n := n) hx
              rw [ho, bZ_nat, ← bit_val n v] at hnx
              obtain ⟨bq, hbq⟩ : ∃ bq, bits .and .i64 ((n : Int) / 2 ^ v) 1 = bq := ⟨_, rfl⟩
              rw [hbq] at hnx
              obtain ⟨t2, ht2⟩ : ∃ t2, (x == 2) = t2 := ⟨_, rfl⟩
              obtain ⟨t3, ht3⟩ : ∃ t3, (x == bq) = t3 := ⟨_, rfl⟩
              rw [ht2, ht3] at hnx
              have HNV := Lib.hid hnx
              clear hnx hx ho
              cases o with
              | false =>
                go_upto_region 21 with (fail)
                go_quiet (fail)
                go_wp2_with fail
                go_roundg (4 - (v + 1))
                case measure => have := HMV.out; omega
                case rel => exact ⟨v + 1, by have := HMV.out; omega, by rw [HNV.out]; rfl, by go_num, _, rfl⟩
              | true =>
                cases t2 with
                | true =>
                  go_upto_region 21 with (fail)
                  go_quiet (fail)
                  go_wp2_with fail
                  go_roundg (4 - (v + 1))
                  case measure => have := HMV.out; omega
                  case rel => exact ⟨v + 1, by have := HMV.out; omega, by rw [HNV.out]; rfl, by go_num, _, rfl⟩
                | false =>
                  go_upto_region 21 with (fail)
                  go_quiet (fail)
                  go_wp2_with fail
                  go_roundg (4 - (v + 1))
                  case measure => have := HMV.out; omega
                  case rel => exact ⟨v + 1, by have := HMV.out; omega, by rw [HNV.out]; simp, by go_num, _, rfl⟩
            · have hv4 : v = 4 := by have := HMV.out; omega
              subst hv4
              rw [ho] at HNX
              clear ho
              cases o with
              | true =>
                go_wp2_with fail
                go_roundg (M - (i + 1))
                case measure => have := HMI.out; omega
                case rel => exact ⟨i + 1, by have := HMI.out; omega, by rw [HNX.out]; go_num, by go_num, _, rfl⟩
              | false =>
                go_wp2_with fail
                go_roundg (M - (i + 1))
                case measure => have := HMI.out; omega
                case rel => exact ⟨i + 1, by have := HMI.out; omega, by rw [HNX.out]; rfl, by go_num, _, rfl⟩
        · have hiM : i = M := by have := HMI.out; omega
          subst hiM
          have hzb := HZB.out
          rw [HKC.out] at hzb
          have hbe : ((kc : Int) != (kc : Int)) = false := by simp
          go_wp2_with fail
          go_roundg (16 - (n + 1))
          case measure => have := HMN.out; omega
          case rel => exact ⟨n + 1, by have := HMN.out; omega, by go_num, _, rfl⟩
    · have hn16 : n = 16 := by have := HMN.out; omega
      subst hn16
      go_wp2_with fail
      go_loopg [14] (M - 1) (fun mm x wr => ∃ i : Nat, 1 ≤ i ∧ mm = M - i ∧ x = .int .i64 (i : Int) ∧ ∃ q, wr = W3.drewN q)
      case atStart => exact ⟨1, Nat.le_refl _, rfl, rfl, q, rfl⟩
      case round =>
        obtain ⟨i, hi1, hm, rfl, q1, rfl⟩ := hrel
        have HMI := Lib.hid hm
        clear hm
        by_cases hi : i < M
        · obtain ⟨I, rfl⟩ : ∃ I, i = I + 1 := ⟨i - 1, by omega⟩
          obtain ⟨i, hie⟩ : ∃ i, I + 1 = i := ⟨_, rfl⟩
          have hII : (i : Int) - 1 = (I : Int) := by omega
          have hIM : I < M := by omega
          obtain ⟨c1, hc1⟩ : ∃ c, L[I]? = some c := ⟨_, List.getElem?_eq_getElem (by rw [HM.out]; exact hIM)⟩
          obtain ⟨c2, hc2⟩ : ∃ c, L[I + 1]? = some c := ⟨_, List.getElem?_eq_getElem (by rw [HM.out]; exact hi)⟩
          obtain ⟨K, hA1, hA2, hA3⟩ := ahd_at HORD.out hc1 hc2
          rw [hie] at hc2 hi hi1 HMI ⊢
          have hl1 := H4.out c1 (List.mem_of_getElem? hc1)
          have hl2 := H4.out c2 (List.mem_of_getElem? hc2)
          have hK4 : K < 4 := by rw [← hl1]; exact (List.getElem?_eq_some_iff.1 hA2).1
          obtain ⟨b1, o1, ad1, cp1, rfl, hb1, k1, hcc1, _⟩ := HR.out.at_ hc1
          obtain ⟨b2, o2, ad2, cp2, e, hb2, k2, hcc2, _⟩ := HR.out.at_ hc2
          injection e with e
          injection e with e1 e2 _
          subst e1 e2
          rw [hl1] at k1
          rw [hl2] at k2
          have HA1 := Lib.hid hA1; have HA2 := Lib.hid hA2; have HA3 := Lib.hid hA3; have HC1 := Lib.hid hcc1; have HC2 := Lib.hid hcc2; have HL1 := Lib.hid hl1; have HIE := Lib.hid hie
          clear hc1 hc2 hA1 hA2 hA3 hcc1 hcc2 hl1 hl2 hie
          go_wp2_with fail
          go_loopg [15] K (fun mm x wr => ∃ j : Nat, mm + j = K ∧ x = .int .i64 (j : Int) ∧ ∃ q, wr = W3.drewN q)
          case atStart => exact ⟨0, by omega, rfl, q1, rfl⟩
          case round =>
            obtain ⟨j, hm, rfl, q2, rfl⟩ := hrel
            have HMJ := Lib.hid hm
            have hjK : j ≤ K := by omega
            have hj4 : j < 4 := by omega
            have d4 : decide ((j : Int) < 4) = true := decide_eq_true (by omega)
            have d4' : decide (j < 4) = true := decide_eq_true hj4
            clear hm
            by_cases hj : j < K
            · obtain ⟨x, hx⟩ : ∃ x, c1[j]? = some x := ⟨_, List.getElem?_eq_getElem (by rw [HL1.out]; exact hj4)⟩
              have hx2 : c2[j]? = some x := by rw [← HA1.out j hj]; exact hx
              obtain ⟨b3, o3, rfl, hb3, k3⟩ := HC1.out.at_ (zV_at hx)
              obtain ⟨b4, o4, rfl, hb4, k4⟩ := HC2.out.at_ (zV_at hx2)
              have hxx : (x == x) = true := by simp
              clear hx hx2
              go_upto_region 30 with (fail)
              go_quiet (fail)
              go_wp2_with fail
              go_roundg (K - (j + 1))
              case measure => have := HMJ.out; omega
              case rel => exact ⟨j + 1, by have := HMJ.out; omega, by go_num, _, rfl⟩
            · have hjK2 : j = K := by omega
              subst hjK2
              obtain ⟨b3, o3, rfl, hb3, k3⟩ := HC1.out.at_ (zV_at HA2.out)
              obtain ⟨b4, o4, rfl, hb4, k4⟩ := HC2.out.at_ (zV_at HA3.out)
              have h01 : ((0 : Int) == 1) = false := rfl
              have hj4n : ((j : Int) == 4) = false := by rw [beq_eq_false_iff_ne]; omega
              go_upto_region 30 with (fail)
              go_quiet (fail)
              go_wp2_with fail
              go_roundg (M - (i + 1))
              case measure => have := HMI.out; omega
              case rel => exact ⟨i + 1, by omega, rfl, by go_num, _, rfl⟩
        · have hiM : M ≤ i := by omega
          obtain ⟨W4, hW4⟩ : ∃ W4, W4 = W3.drewN q1 := ⟨_, rfl⟩
          have HS4 : Hid (CSt w W4 p S) := Lib.hid (HS3.out.below (by rw [hW4]; exact bdN' _ _))
          rw [← hW4]
          clear hW4
          by_cases hM0 : M = 0
          · have d0 : ((M : Int) == 0) = true := by rw [beq_iff_eq]; omega
            clear hM0
            go_wp2_with fail
            refine (awake6 W4).mono ?_
            rintro e W5 ⟨rfl, hb5⟩
            have HS5 := Lib.hid (HS4.out.below hb5)
            clear hb5
            go_wp2_with fail
            go_ret
            exact ⟨rfl, HS5.out.bel⟩
          · have d0 : ((M : Int) == 0) = false := by rw [beq_eq_false_iff_ne]; omega
            obtain ⟨Q, hQ⟩ : ∃ Q, Q + 1 = M := ⟨M - 1, by omega⟩
            have hMQ : (M : Int) - 1 = (Q : Int) := by omega
            have HE : Hid (cubE S (k : Int) (Q : Int) = 2) := Lib.hid (cubE_full (by omega) (by rw [isK_nat]; exact HD2.out.is) (by rw [Int.toNat_natCast, HL.out, HM.out]; omega))
            have HC4 := Lib.hid (cubes_ok W4 w.heap.size p S HS4.out.sto (by rw [HS4.out.v4]; decide) (k : Int) (Q : Int))
            clear hM0 hQ
            go_wp2_with fail
            refine HC4.out.mono ?_
            rintro e W5 ⟨hb5, ⟨_, rfl⟩ | ⟨h, _⟩⟩
            · rw [HE.out]
              have HS5 := Lib.hid (HS4.out.below hb5)
              clear hb5
              go_wp2_with fail
              refine (awake6 W5).mono ?_
              rintro e W6 ⟨rfl, hb6⟩
              have HS6 := Lib.hid (HS5.out.below hb6)
              clear hb6
              go_wp2_with fail
              go_ret
              exact ⟨rfl, HS6.out.bel⟩
            · rw [HE.out] at h; cases h
end Go.Proofs.Ytoegenacjhmicaa

/- HashMany: the plain law (tables whose keys are numbered) and the walk. -/
import Derived.Test.YtdalnhhenahcjaaHashL2
namespace Go.Proofs.Ytdalnhhenahcjaa
open Go.RowKit HP

theorem cntB_pos {p : Nat → Bool} {N i : Nat} (hi : i < N) (h : p i = true) : 1 ≤ cntB p N := by
  have h1 := cntB_le_le (p := p) (a := i + 1) (b := N) (by omega)
  have h2 : cntB p (i + 1) = cntB p i + 1 := by simp [cntB, h]
  omega
theorem Tab.pos {w0 w : World} {p : Nat} {M : Key → Option Int} {n : Nat} (h : Tab w0 w p M n) (c : Key) (hs : (M c).isSome = true) : 1 ≤ n := by
  obtain ⟨g, ⟨j, u, L, h⟩, _⟩ := h
  cases e : M c with
  | none => rw [e] at hs; cases hs
  | some v =>
    obtain ⟨i, hi, h1, _⟩ := (h.rep c v).1 e
    have := cntB_pos (p := full L) hi (by unfold full; rw [h1]; rfl)
    have := h.cf
    omega

/-- the i-th key of HashMany -/
def nkey (s : Int) (i : Nat) : Key := ((i : Int) * s, (i : Int), bits .and .i64 (i : Int) 3)
/-- a table whose keys are numbered -/
def mk (s : Int) (f : Nat → Option Int) : Key → Option Int := fun c => if c = nkey s c.2.1.toNat then f c.2.1.toNat else none
theorem mk_at (s : Int) (f : Nat → Option Int) (i : Nat) : mk s f (nkey s i) = f i := by
  have e : (nkey s i).2.1.toNat = i := by simp [nkey]
  unfold mk; rw [e, if_pos rfl]
theorem mk_set (s : Int) (f g : Nat → Option Int) (i : Nat) (o : Option Int) (hg : ∀ j, g j = if j = i then o else f j) : setK (mk s f) (nkey s i) o = mk s g := by
  funext c
  unfold setK
  by_cases e : c = nkey s i
  · subst e; rw [if_pos rfl, mk_at, hg, if_pos rfl]
  · rw [if_neg e]
    unfold mk
    by_cases e2 : c = nkey s c.2.1.toNat
    · rw [if_pos e2, if_pos e2, hg, if_neg (fun h => e (by rw [h] at e2; exact e2))]
    · rw [if_neg e2, if_neg e2]
theorem mk_none (s : Int) : mk s (fun _ => none) = fun _ => none := by
  funext c; unfold mk; split <;> rfl
def f1 (i j : Nat) : Option Int := if j < i then some (j : Int) else none
def f2 (N d i j : Nat) : Option Int := if j < N then (if j % d = 0 ∧ j < i then none else some (j : Int)) else none
def f3 (N d i j : Nat) : Option Int := if j < N then (if j % (2 * d) = 0 ∧ j < i then some (-(j : Int)) else if j % d = 0 then none else some (j : Int)) else none
theorem f1_next (i j : Nat) : f1 (i + 1) j = if j = i then some (i : Int) else f1 i j := by
  unfold f1
  by_cases e : j = i
  · subst e; simp
  · rw [if_neg e]; by_cases h : j < i
    · rw [if_pos h, if_pos (by omega)]
    · rw [if_neg h, if_neg (by omega)]
theorem f12 (N d j : Nat) : f1 N j = f2 N d 0 j := by unfold f1 f2; simp
theorem f2_next (N d i j : Nat) (hd : 0 < d) (hi : i % d = 0) (hiN : i < N) : f2 N d (i + d) j = if j = i then none else f2 N d i j := by
  unfold f2
  by_cases e : j = i
  · subst e; rw [if_pos hiN, if_pos ⟨hi, by omega⟩, if_pos rfl]
  · rw [if_neg e]
    have : (j % d = 0 ∧ j < i + d) ↔ (j % d = 0 ∧ j < i) := by
      constructor
      · rintro ⟨h1, h2⟩
        refine ⟨h1, ?_⟩
        rcases Nat.lt_or_ge j i with h3 | h3
        · exact h3
        · exfalso
          obtain ⟨a, ha⟩ := Nat.dvd_of_mod_eq_zero h1
          obtain ⟨b, hb⟩ := Nat.dvd_of_mod_eq_zero hi
          subst ha hb
          have h4 : a < b + 1 := by
            have : d * a < d * (b + 1) := by rw [Nat.mul_add, Nat.mul_one]; exact h2
            exact Nat.lt_of_mul_lt_mul_left this
          have h5 : b ≤ a := Nat.le_of_mul_le_mul_left h3 hd
          exact e (by rw [show a = b by omega])
      · rintro ⟨h1, h2⟩; exact ⟨h1, by omega⟩
    simp only [this]
theorem f2_at (N d i : Nat) (hiN : i < N) : f2 N d i i = some (i : Int) := by unfold f2; rw [if_pos hiN, if_neg (by omega)]
theorem f23 (N d i j : Nat) (hi : N ≤ i) : f2 N d i j = f3 N d 0 j := by
  unfold f2 f3
  by_cases h : j < N
  · have h3 : j < i := by omega
    simp [h, h3]
  · simp [h]
theorem f3_next (N d i j : Nat) (hd : 0 < d) (hi : i % (2 * d) = 0) (hiN : i < N) : f3 N d (i + 2 * d) j = if j = i then some (-(i : Int)) else f3 N d i j := by
  unfold f3
  by_cases e : j = i
  · subst e; rw [if_pos hiN, if_pos ⟨hi, by omega⟩, if_pos rfl]
  · rw [if_neg e]
    have : (j % (2 * d) = 0 ∧ j < i + 2 * d) ↔ (j % (2 * d) = 0 ∧ j < i) := by
      constructor
      · rintro ⟨h1, h2⟩
        refine ⟨h1, ?_⟩
        rcases Nat.lt_or_ge j i with h3 | h3
        · exact h3
        · exfalso
          obtain ⟨a, ha⟩ := Nat.dvd_of_mod_eq_zero h1
          obtain ⟨b, hb⟩ := Nat.dvd_of_mod_eq_zero hi
          subst ha hb
          have h4 : a < b + 1 := by
            have : 2 * d * a < 2 * d * (b + 1) := by rw [Nat.mul_add, Nat.mul_one]; exact h2
            exact Nat.lt_of_mul_lt_mul_left this
          have h5 : b ≤ a := Nat.le_of_mul_le_mul_left h3 (by omega)
          exact e (by rw [show a = b by omega])
      · rintro ⟨h1, h2⟩; exact ⟨h1, by omega⟩
    simp only [this]
theorem step_mod (i d : Nat) (h : i % d = 0) : (i + d) % d = 0 := by rw [Nat.add_mod_right]; exact h
theorem mod_of_mod (k d m : Nat) (h : k % (d * m) = 0) : k % d = 0 := by
  obtain ⟨q, hq⟩ := Nat.dvd_of_mod_eq_zero h
  rw [hq, Nat.mul_assoc]; exact Nat.mul_mod_right _ _
theorem prod_bd (i s : Nat) (hi : i ≤ 2000) (hs : s ≤ 65535) : 0 ≤ (i : Int) * (s : Int) ∧ (i : Int) * (s : Int) ≤ 131070000 := by
  have h : i * s ≤ 2000 * 65535 := Nat.mul_le_mul hi hs
  have e : ((i * s : Nat) : Int) = (i : Int) * (s : Int) := by simp
  omega

set_option maxRecDepth 100000 in
set_option maxHeartbeats 4000000 in
theorem hashMany_walk (w : World) (many : Int) (_ : (Lit.int .i64 many).wf = true) (step : Int) (_ : (Lit.int .i64 step).wf = true) (each : Int) (_ : (Lit.int .i64 each).wf = true) :
    Calls Try.prog 5 #[.int .i64 many, .int .i64 step, .int .i64 each] w (Fine w) := by
  obtain ⟨n0, hn0', hn0b⟩ := i64_and_bd many 65535 (by decide)
  obtain ⟨s, hs', hsb⟩ := i64_and_bd step 65535 (by decide)
  obtain ⟨d0, hd', hdb⟩ := i64_and_bd each 7 (by decide)
  have hn0 : bits .and .i64 many 65535 = (n0 : Int) := hn0'
  have hs : bits .and .i64 step 65535 = (s : Int) := hs'
  have hd : bits .and .i64 each 7 = (d0 : Int) := hd'
  clear hn0' hs' hd'
  obtain ⟨N, hN, hNb⟩ : ∃ N : Nat, (n0 : Int) % 2000 = (N : Int) ∧ N < 2000 := ⟨n0 % 2000, by omega, Nat.mod_lt _ (by decide)⟩
  go_enter Try.func5, Try.ntmps5
  go_wp2_with fail
  refine (tnew w w (Below.refl _ _)).mono ?_
  rintro e w1 ⟨p, rfl, h1, _, _⟩
  have H1 := Lib.hid h1; clear h1
  obtain ⟨d, hdd, hd1, hd2⟩ : ∃ d : Nat, 2 + (d0 : Int) = (d : Int) ∧ 2 ≤ d ∧ d ≤ 9 := ⟨2 + d0, by omega, by omega, by omega⟩
  have HD := Lib.hid hdd
  go_wp2_with fail
  rw [hN]
  clear hN hn0 hs hd hdd hn0b hdb
  go_loopg [11] N (fun m x wr => ∃ i : Nat, m + i = N ∧ x = .int .i64 (i : Int) ∧ ∃ n, n ≤ i ∧ Tab w wr p (mk s (f1 i)) n ∧ Hid (n = i))
  case atStart => exact ⟨0, rfl, rfl, 0, Nat.le_refl _, by rw [show mk s (f1 0) = fun _ => none from by rw [← mk_none s]; congr 1]; exact H1.out, rfl⟩
  case round =>
    obtain ⟨i, hmi, rfl, n, hni, hT, hne⟩ := hrel
    have HMI := Lib.hid hmi; have HT := Lib.hid hT; clear hmi hT
    by_cases hlt : i < N
    · have hpb := prod_bd i s (by omega) hsb
      go_wp2_with fail
      refine (tput w _ p _ n (nkey s i) (i : Int) HT.out (by omega)).mono ?_
      rintro e w3 ⟨rfl, hT3⟩
      rw [mk_set s (f1 i) (f1 (i + 1)) i _ (f1_next i), mk_at, show (f1 i i).isSome = false by simp [f1]] at hT3
      have HT3 := Lib.hid hT3; clear hT3
      go_wp2_with fail
      go_roundg (N - (i + 1))
      case measure => have := HMI.out; omega
      case rel => exact ⟨i + 1, by omega, by go_num, n + 1, by omega, HT3.out, by have := hne.out; unfold Hid; omega⟩
    · have hge : N ≤ i := by omega
      have HI : Hid (i = N) := by have := HMI.out; unfold Hid; omega
      have hT0 : Hid (Tab w wr p (mk s (f2 N d 0)) N) := by
        have h := HT.out
        rw [hne.out, HI.out, show mk s (f1 N) = mk s (f2 N d 0) from by congr 1; funext j; exact f12 N d j] at h
        exact h
      clear hne HMI HT
      go_wp2_with fail
      go_loopg [12, 13] (N + 9) (fun m x y wr => ∃ i n : Nat, m + i = N + 9 ∧ Hid (i % d = 0) ∧ i ≤ N + 9 ∧ x = .int .i64 (n : Int) ∧ y = .int .i64 (i : Int) ∧ n ≤ N ∧ Tab w wr p (mk s (f2 N d i)) n)
      case atStart => exact ⟨0, N, rfl, by unfold Hid; simp, by omega, rfl, rfl, Nat.le_refl _, hT0.out⟩
      case round =>
        obtain ⟨i, n, hmi, hid, hi9, rfl, rfl, hnN, hT⟩ := hrel
        have HMI := Lib.hid hmi; have HT := Lib.hid hT; clear hmi hT
        by_cases hlt : i < N
        · have hpb := prod_bd i s (by omega) hsb
          have hpos := HT.out.pos (nkey s i) (by rw [mk_at, f2_at N d i hlt]; rfl)
          go_wp2_with fail
          refine (tdrop w _ p _ n (nkey s i) HT.out).mono ?_
          rintro e w3 ⟨rfl, hT3⟩
          rw [mk_set s (f2 N d i) (f2 N d (i + d)) i _ (fun j => f2_next N d i j (by omega) hid.out hlt), mk_at, f2_at N d i hlt, Option.isSome_some, if_pos rfl] at hT3
          rw [mk_at, f2_at N d i hlt, Option.isSome_some]
          have HT3 := Lib.hid hT3; clear hT3
          go_wp2_with fail
          go_roundg (N + 9 - (i + d))
          case measure => have := HMI.out; omega
          case rel => exact ⟨i + d, n - 1, by omega, step_mod _ _ hid.out, by omega, by rw [show (((n - 1 : Nat)) : Int) = (n : Int) - 1 by omega], by go_num, by omega, HT3.out⟩
        · have hge : N ≤ i := by omega
          have hT0 : Hid (Tab w wr p (mk s (f3 N d 0)) n) := by
            have h := HT.out
            rw [show mk s (f2 N d i) = mk s (f3 N d 0) from by congr 1; funext j; exact f23 N d i j hge] at h
            exact h
          clear HMI HT hid
          go_wp2_with fail
          go_loopg [12, 14] (N + 18) (fun m x y wr => ∃ i n : Nat, m + i = N + 18 ∧ Hid (i % (2 * d) = 0) ∧ i ≤ N + 18 ∧ x = .int .i64 (n : Int) ∧ y = .int .i64 (i : Int) ∧ n ≤ N + i ∧ Tab w wr p (mk s (f3 N d i)) n)
          case atStart => exact ⟨0, n, rfl, by unfold Hid; simp, by omega, rfl, rfl, by omega, hT0.out⟩
          case round =>
            obtain ⟨i, n, hmi, hid, hi9, rfl, rfl, hnN, hT⟩ := hrel
            have HMI := Lib.hid hmi; have HT := Lib.hid hT; clear hmi hT
            by_cases hlt : i < N
            · have hpb := prod_bd i s (by omega) hsb
              go_wp2_with fail
              refine (tput w _ p _ n (nkey s i) (-(i : Int)) HT.out (by omega)).mono ?_
              rintro e w3 ⟨rfl, hT3⟩
              have hT4 : Tab w w3 p (mk s (f3 N d (i + 2 * d))) (if (mk s (f3 N d i) (nkey s i)).isSome = true then n else n + 1) := by
                rw [← mk_set s (f3 N d i) (f3 N d (i + 2 * d)) i _ (fun j => f3_next N d i j (by omega) hid.out hlt)]; exact hT3
              rw [mk_at, show (f3 N d i i).isSome = false by
                unfold f3; rw [if_pos hlt, if_neg (by omega), if_pos (by rw [Nat.mul_comm] at hid; exact mod_of_mod i d 2 hid.out)]; rfl] at hT4
              clear hT3
              have HT3 := Lib.hid hT4; clear hT4
              go_wp2_with fail
              go_roundg (N + 18 - (i + 2 * d))
              case measure => have := HMI.out; omega
              case rel => exact ⟨i + 2 * d, n + 1, by omega, step_mod _ _ hid.out, by omega, by go_num, by go_num, by omega, HT3.out⟩
            · have hge : N ≤ i := by omega
              clear HMI hid
              go_wp2_with fail
              go_loopg [15] N (fun m x wr => ∃ k : Nat, m + k = N ∧ x = .int .i64 (k : Int) ∧ Tab w wr p (mk s (f3 N d i)) n)
              case atStart => exact ⟨0, rfl, rfl, HT.out⟩
              case round =>
                obtain ⟨k, hmk, rfl, hT⟩ := hrel
                clear HT
                have HMI := Lib.hid hmk; have HT := Lib.hid hT; clear hmk hT
                by_cases hlt : k < N
                · have hpb := prod_bd k s (by omega) hsb
                  have hv : f3 N d i k = if k % d = 0 then (if k % (2 * d) = 0 then some (-(k : Int)) else none) else some (k : Int) := by
                    unfold f3
                    rw [if_pos hlt]
                    have hki : k < i := by omega
                    by_cases h2 : k % d = 0
                    · by_cases h3 : k % (2 * d) = 0
                      · simp [h2, h3, hki]
                      · simp [h2, h3]
                    · have h3 : ¬ k % (2 * d) = 0 := fun h3 => h2 (by rw [Nat.mul_comm] at h3; exact mod_of_mod k d 2 h3)
                      simp [h2, h3]
                  have HV := Lib.hid hv; clear hv
                  go_wp2_with fail
                  refine (tget w _ p _ n (nkey s k) HT.out).mono ?_
                  rintro e w3 ⟨rfl, hT3⟩
                  unfold getV getE
                  rw [mk_at, HV.out]
                  have HT3 := Lib.hid hT3; clear hT3
                  have e1 : (k : Int) % (d : Int) = ((k % d : Nat) : Int) := by simp
                  have e2 : (k : Int) % (2 * (d : Int)) = ((k % (2 * d) : Nat) : Int) := by simp
                  by_cases h2 : k % d = 0
                  · by_cases h3 : k % (2 * d) = 0
                    · have b1 : ((k : Int) % (d : Int) == 0) = true := by rw [e1, h2]; rfl
                      have b2 : ((k : Int) % (2 * (d : Int)) != 0) = false := by rw [e2, h3]; rfl
                      rw [if_pos h2, if_pos h3]
                      simp only [Option.getD_some, Option.isSome_some, if_true]
                      clear h2 h3 e1 e2
                      go_wp2_with fail
                      go_roundg (N - (k + 1))
                      case measure => have := HMI.out; omega
                      case rel => exact ⟨k + 1, by omega, by go_num, HT3.out⟩
                    · have b1 : ((k : Int) % (d : Int) == 0) = true := by rw [e1, h2]; rfl
                      have b2 : ((k : Int) % (2 * (d : Int)) != 0) = true := by rw [e2, bne_iff_ne]; omega
                      rw [if_pos h2, if_neg h3]
                      simp only [Option.getD_none, Option.isSome_none, if_false, Bool.false_eq_true]
                      clear h2 h3 e1 e2
                      go_wp2_with fail
                      go_roundg (N - (k + 1))
                      case measure => have := HMI.out; omega
                      case rel => exact ⟨k + 1, by omega, by go_num, HT3.out⟩
                  · have b1 : ((k : Int) % (d : Int) == 0) = false := by rw [e1, beq_eq_false_iff_ne]; omega
                    rw [if_neg h2]
                    simp only [Option.getD_some, Option.isSome_some, if_true]
                    clear h2 e1 e2
                    go_wp2_with fail
                    go_roundg (N - (k + 1))
                    case measure => have := HMI.out; omega
                    case rel => exact ⟨k + 1, by omega, by go_num, HT3.out⟩
                · have hge2 : N ≤ k := by omega
                  go_wp2_with fail
                  refine (tlen w _ p _ n HT.out).mono ?_
                  rintro e w3 ⟨rfl, rfl⟩
                  go_wp2_with fail
                  refine (awake02 _).mono ?_
                  rintro e w5 ⟨rfl, h5⟩
                  go_wp2_with fail
                  go_ret
                  exact ⟨rfl, HT.out.bel.trans (h5.mono HT.out.bel.size)⟩
end Go.Proofs.Ytdalnhhenahcjaa

/- QuanValues: the walk. -/
import Derived.Test.YtffkehefkmdadaaQuanG
namespace Go.Proofs.Ytffkehefkmdadaa
open Go.RowKit HP NP
def btv (n : Int) (k : Nat) : Bool := bits .and .i64 (n / 2 ^ k) 1 == 1
theorem and_oneZ (x : Int) : bits .and .i64 x 1 = x % 2 := and_low x 1 (by decide)
theorem btv_eq (n : Int) (k : Nat) : btv n k = decide (n / 2 ^ k % 2 = 1) := by
  unfold btv; rw [and_oneZ]; rfl
def lo16 (n : Int) : Nat := (n % 65536).toNat
theorem lo16_int (n : Int) : (lo16 n : Int) = n % 65536 := by unfold lo16; omega
theorem lo16_lt (n : Int) : lo16 n < 65536 := by unfold lo16; omega
theorem btv_lo (n : Int) (k : Nat) (hk : k < 16) : btv n k = (lo16 n).testBit k := by
  rw [btv_eq, Nat.testBit_eq_decide_div_mod_eq]
  have h := lo16_int n
  have hd : n = 65536 * (n / 65536) + (lo16 n : Int) := by rw [h]; omega
  have hk16 : (65536 : Int) = 2 ^ k * 2 * 2 ^ (15 - k) := by
    have : k = 0 ∨ k = 1 ∨ k = 2 ∨ k = 3 ∨ k = 4 ∨ k = 5 ∨ k = 6 ∨ k = 7 ∨ k = 8 ∨ k = 9 ∨ k = 10 ∨ k = 11 ∨ k = 12 ∨ k = 13 ∨ k = 14 ∨ k = 15 := by omega
    rcases this with rfl | rfl | rfl | rfl | rfl | rfl | rfl | rfl | rfl | rfl | rfl | rfl | rfl | rfl | rfl | rfl <;> rfl
  have hpk : (0 : Int) < 2 ^ k := Int.pow_pos (by decide)
  have e : n / 2 ^ k = (lo16 n : Int) / 2 ^ k + 2 * (2 ^ (15 - k) * (n / 65536)) := by
    have e1 : n = (lo16 n : Int) + 2 ^ k * (2 * (2 ^ (15 - k) * (n / 65536))) := by
      have : (65536 : Int) * (n / 65536) = 2 ^ k * (2 * (2 ^ (15 - k) * (n / 65536))) := by
        generalize n / 65536 = z
        rw [hk16, Int.mul_assoc, Int.mul_assoc]
      omega
    generalize hz : 2 * (2 ^ (15 - k) * (n / 65536)) = z at e1
    exact (congrArg (fun t : Int => t / 2 ^ k) e1).trans (Int.add_mul_ediv_left _ _ (by omega))
  rw [e]
  have e2 : ((lo16 n : Int) / 2 ^ k) = ((lo16 n / 2 ^ k : Nat) : Int) := by
    rw [Int.natCast_ediv, Int.natCast_pow]; rfl
  rw [e2]
  generalize 2 ^ (15 - k) * (n / 65536) = y
  generalize lo16 n / 2 ^ k = m
  by_cases h1 : m % 2 = 1
  · rw [decide_eq_true h1, decide_eq_true (by omega)]
  · rw [decide_eq_false h1, decide_eq_false (by omega)]
theorem btv_int (n : Int) (k : Nat) (hk : k < 16) : bits .and .i64 (n / 2 ^ k) 1 = (((lo16 n).testBit k).toNat : Int) := by
  have h := btv_lo n k hk
  unfold btv at h
  have hx := and_oneZ (n / 2 ^ k)
  rcases (by omega : (n / 2 ^ k) % 2 = 0 ∨ (n / 2 ^ k) % 2 = 1) with e | e
  · rw [hx, e] at h ⊢; rw [← h]; rfl
  · rw [hx, e] at h ⊢; rw [← h]; rfl
/-- the variable of round i -/
def vOf (m c i : Nat) : Nat := (i * m + c) % 4
/-- the variables of the first k rounds -/
def done (m c k : Nat) (j : Nat) : Bool := (List.range k).any fun i => vOf m c i == j
theorem done_all : ∀ m, (m = 1 ∨ m = 3) → ∀ c, c < 4 → ∀ j, j < 4 → done m c 4 j = true := by
  intro m hm c hc j hj
  rcases hm with rfl | rfl
  · have : ∀ c, c < 4 → ∀ j, j < 4 → done 1 c 4 j = true := by decide
    exact this c hc j hj
  · have : ∀ c, c < 4 → ∀ j, j < 4 → done 3 c 4 j = true := by decide
    exact this c hc j hj
theorem done_succ (m c k j : Nat) : done m c (k + 1) j = (done m c k j || vOf m c k == j) := by
  unfold done
  rw [List.range_succ, List.any_append]
  simp
/-- the values of the variables done, of the others ρ -/
def asg (V : Nat) (d : Nat → Bool) (ρ : Nat → Bool) : Nat → Bool := fun j => if d j then V.testBit j else ρ j
def numOf (V : Nat) (d : Nat → Bool) : Nat := ttF (fun j => d j && V.testBit j) 4
theorem numOf_bit (V : Nat) (d : Nat → Bool) (j : Nat) (hj : j < 4) : (numOf V d).testBit j = (d j && V.testBit j) := ttF_testBit _ 4 j hj
theorem numOf_lt (V : Nat) (d : Nat → Bool) : numOf V d < 16 := ttF_lt _ 4
theorem asg_step (V : Nat) (d : Nat → Bool) (v : Nat) (ρ : Nat → Bool) : asg V d (upR ρ v (V.testBit v)) = asg V (fun j => d j || v == j) ρ := by
  funext j
  unfold asg upR
  by_cases hd : d j = true
  · simp [hd]
  · by_cases e : j = v
    · subst e; simp [hd]
    · have : (v == j) = false := by simp; omega
      simp [hd, e, this]
theorem numOf_step (V : Nat) (d : Nat → Bool) (v : Nat) (hv : v < 4) : numOf V d ||| ((V.testBit v).toNat * 2 ^ v) = numOf V (fun j => d j || v == j) := by
  have hb : ((V.testBit v).toNat * 2 ^ v) < 16 := by
    have : 2 ^ v ≤ 8 := by rcases (by omega : v = 0 ∨ v = 1 ∨ v = 2 ∨ v = 3) with rfl | rfl | rfl | rfl <;> decide
    cases V.testBit v <;> simp <;> omega
  refine eq16 (Nat.or_lt_two_pow (n := 16) (by have := numOf_lt V d; omega) (by omega)) (by have := numOf_lt V (fun j => d j || v == j); omega) fun i hi => ?_
  rw [Nat.testBit_or]
  rcases Nat.lt_or_ge i 4 with h4 | h4
  · rw [numOf_bit V d i h4, numOf_bit V _ i h4]
    have ht : ((V.testBit v).toNat * 2 ^ v).testBit i = (decide (v = i) && V.testBit v) := by
      cases V.testBit v with
      | false => simp
      | true => simp [Nat.testBit_two_pow]
    rw [ht]
    by_cases e : v = i
    · subst e; cases d v <;> cases V.testBit v <;> simp
    · have : (v == i) = false := by simpa using e
      rw [this, decide_eq_false e]; simp
  · have p4 : 2 ^ 4 ≤ 2 ^ i := Nat.pow_le_pow_right (by decide) h4
    rw [Nat.testBit_lt_two_pow (by have := numOf_lt V d; omega), Nat.testBit_lt_two_pow (by omega), Nat.testBit_lt_two_pow (by have := numOf_lt V (fun j => d j || v == j); omega)]
    rfl
theorem ix_num (V : Nat) (ρ : Nat → Bool) (d : Nat → Bool) (hd : ∀ j, j < 4 → d j = true) : ix (asg V d ρ) = numOf V d := by
  have h1 : ix (asg V d ρ) = ix (rho (valsN (numOf V d))) := ix_congr fun i hi => by
    unfold asg
    rw [hd i hi, if_pos rfl]
    have h := vals_ix (asg V d ρ) i hi
    have e : rho (valsN (numOf V d)) i = (numOf V d).testBit i := by
      rcases (by omega : i = 0 ∨ i = 1 ∨ i = 2 ∨ i = 3) with rfl | rfl | rfl | rfl <;> rfl
    rw [e, numOf_bit V d i hi, hd i hi]; simp
  rw [h1]
  exact ix_vals _ (numOf_lt V d)
theorem and_3 (x : Nat) : bits .and .i64 (x : Int) 3 = ((x % 4 : Nat) : Int) := and_lowN x 2 (by decide)
set_option maxRecDepth 100000 in
set_option maxHeartbeats 6400000 in
theorem quanValues_walk (w : World) (zb : Int) (_wb : (Lit.int .i64 zb).wf = true) (zv : Int) (_wv : (Lit.int .i64 zv).wf = true) (zo : Int) (_wo : (Lit.int .i64 zo).wf = true) : Calls Try.prog 10 #[.int .i64 zb, .int .i64 zv, .int .i64 zo] w (Fine w) := by
  obtain ⟨X, hXe⟩ : ∃ X, X = lo16 zb := ⟨_, rfl⟩
  have hX : bits .and .i64 zb 65535 = (X : Int) := by rw [hXe, lo16_int]; exact and_low zb 16 (by decide)
  have hX2 : X < 65536 := by rw [hXe]; exact lo16_lt zb
  have HXE := Lib.hid hXe
  obtain ⟨V, hVe⟩ : ∃ V, V = lo16 zv := ⟨_, rfl⟩
  have HVE := Lib.hid hVe
  obtain ⟨a, ha, ha2⟩ : ∃ a : Nat, bits .and .i64 zo 1 = (a : Int) ∧ a < 2 := ⟨(zo % 2).toNat, by rw [show bits .and .i64 zo 1 = zo % 2 from and_oneZ zo]; omega, by omega⟩
  obtain ⟨c, hc, hc2⟩ := low2 (zo / 2)
  clear hXe hVe
  have hma : (a = 0 ∧ 1 + 2 * a = 1) ∨ (a = 1 ∧ 1 + 2 * a = 3) := by omega
  obtain ⟨m, hm⟩ : ∃ m, m = 1 + 2 * a := ⟨_, rfl⟩
  rw [← hm] at hma
  have HMM : Hid (m = 1 ∨ m = 3) := Lib.hid (by omega)
  go_enter Try.func10, Try.ntmps10
  go_wp2_with fail
  refine (begun05 w w.heap.size 2000 (Nat.le_refl _) (by decide) (by decide)).mono ?_
  rintro e w1 ⟨p, q, qn, rfl, hs, ho, hq, hb⟩
  have H1 := Lib.hid (QSt.begin (r := 998) hs ho hq hb (by decide))
  clear hs ho hq hb
  go_wp2_with fail
  refine (make_ok w1 _ p _ X hX2 H1.out.sto H1.out.hB H1.out.v4).mono ?_
  intro e w2 hr
  obtain ⟨S2, x, rfl, ho, hg⟩ := H1.out.made hr (by decide)
  have H2 := Lib.hid ho; have Dx := Lib.hid hg.den
  clear hr ho hg
  go_wp2_with fail
  go_loopg [10, 12, 13] 4 (fun g u10 u12 u13 wr => ∃ (i r xk : Nat) (S : NS), g + i = 4 ∧ u10 = .int .i64 (xk : Int) ∧ u12 = .int .i64 (numOf V (done m c i) : Int) ∧ u13 = .int .i64 (i : Int) ∧ QSt w wr w.heap.size p q qn S r ∧ 983 ≤ r + 15 * i ∧ Den S xk (fun ρ => tbl X (asg V (done m c i) ρ)))
  case atStart =>
    refine ⟨0, 983, x, S2, rfl, rfl, ?_, rfl, H2.out, by decide, Dx.out.cong (fun ρ => by unfold asg done; simp)⟩
    have : numOf V (done m c 0) = 0 := by unfold numOf done ttF; simp [ttF]
    rw [this]; rfl
  case round =>
    obtain ⟨i, r, xk, S, hg, rfl, rfl, rfl, hq, hr, hd⟩ := hrel
    have HG := Lib.hid hg; have HQ := Lib.hid hq; have HR := Lib.hid hr; have HD := Lib.hid hd
    clear hg hq hr hd Dx H2 H1
    by_cases hi : i < 4
    · obtain ⟨v, hv⟩ : ∃ v, v = vOf m c i := ⟨_, rfl⟩
      have hv4 : v < 4 := by rw [hv]; exact Nat.mod_lt _ (by decide)
      obtain ⟨t, ht⟩ : ∃ t, t = V.testBit v := ⟨_, rfl⟩
      have htv : bits .and .i64 (zv / 2 ^ v) 1 = (t.toNat : Int) := by rw [ht, HVE.out]; exact btv_int zv v (by omega)
      have hte : ((t.toNat : Int) == 1) = t := by cases t <;> rfl
      obtain ⟨n, hn⟩ : ∃ n, n = numOf V (done m c i) := ⟨_, rfl⟩
      have hnl : n < 16 := by rw [hn]; exact numOf_lt _ _
      obtain ⟨n', hn'⟩ : ∃ n', n' = numOf V (done m c (i + 1)) := ⟨_, rfl⟩
      have hor : bits .or .i64 (n : Int) (wrap64 ((t.toNat : Int) * 2 ^ v)) = (n' : Int) := by
        have hp8 : 2 ^ v ≤ 8 := by rcases (by omega : v = 0 ∨ v = 1 ∨ v = 2 ∨ v = 3) with h | h | h | h <;> rw [h] <;> decide
        have e1 : wrap64 ((t.toNat : Int) * 2 ^ v) = ((t.toNat * 2 ^ v : Nat) : Int) := by
          have e0 : ((2 : Int) ^ v) = ((2 ^ v : Nat) : Int) := by simp
          have hb : t.toNat * 2 ^ v ≤ 8 := by cases t <;> simp <;> omega
          rw [e0, show (t.toNat : Int) * ((2 ^ v : Nat) : Int) = ((t.toNat * 2 ^ v : Nat) : Int) by simp]
          generalize t.toNat * 2 ^ v = y at hb
          exact w64 _ (by omega) (by omega)
        rw [e1, i64_or _ _ (by omega) (by cases t <;> simp <;> omega), hn, ht, numOf_step V _ v hv4, hn']
        congr 2
        funext j
        rw [done_succ, ← hv]
      have f1 : m = 1 → bits .and .i64 ((i : Int) + (c : Int)) 3 = (v : Int) := fun h => by
        rw [hv, show (i : Int) + (c : Int) = ((i + c : Nat) : Int) by omega, and_3]; unfold vOf; rw [h, Nat.mul_one]
      have f3 : m = 3 → bits .and .i64 ((i : Int) * 3 + (c : Int)) 3 = (v : Int) := fun h => by
        rw [hv, show (i : Int) * 3 + (c : Int) = ((i * 3 + c : Nat) : Int) by omega, and_3]; unfold vOf; rw [h]
      have HV := Lib.hid hv; have HT := Lib.hid ht; have HN := Lib.hid hn; have HN' := Lib.hid hn'
      rw [← hn]
      have HRS := Lib.hid (qrs_ok wr _ p q qn S HQ.out.sto HQ.out.ops HQ.out.qu HQ.out.hB xk v t HD.out.is (HQ.out.toOSt.vf hv4) 15 (by rw [HQ.out.v4]; decide))
      clear hv ht hn hn'
      rcases hma with ⟨rfl, hm1⟩ | ⟨rfl, hm1⟩
      all_goals
        have g1 := f1; have g3 := f3
        clear f1 f3
        first | have g := g1 hm1 | have g := g3 hm1
        clear g1 g3 hm1 hm
        go_wp2_with fail
        refine HRS.out.mono ?_
        intro e w4 hr
        obtain ⟨S4, x4, rfl, ho, hg⟩ := HQ.out.got hr (by have := HR.out; omega)
        have H4 := Lib.hid ho
        have D4 := Lib.hid (hg.den.cong (g' := fun ρ => tbl X (asg V (done m c (i + 1)) ρ)) (fun ρ => by
          unfold rsT
          rw [HD.out.says, HT.out, asg_step]
          congr 2
          funext j
          rw [done_succ, ← HV.out]))
        clear hr ho hg
        go_wp2_with fail
        go_roundg (4 - (i + 1))
        case measure => have := HG.out; omega
        case rel => exact ⟨i + 1, r - 15, x4, S4, by have := HG.out; omega, rfl, by rw [← HN'.out], by go_num, H4.out, by have := HR.out; omega, D4.out⟩
    · have hi4 : i = 4 := by have := HG.out; omega
      subst hi4
      obtain ⟨n, hn⟩ : ∃ n, n = numOf V (done m c 4) := ⟨_, rfl⟩
      have hnl : n < 16 := by rw [hn]; exact numOf_lt _ _
      obtain ⟨t, ht⟩ : ∃ t, t = X.testBit n := ⟨_, rfl⟩
      have htv : bits .and .i64 (zb / 2 ^ n) 1 = (t.toNat : Int) := by rw [ht, HXE.out]; exact btv_int zb n hnl
      have hxk : xk = t.toNat := by
        have hd : Den S xk (fun _ => t) := HD.out.cong (fun ρ => by
          unfold tbl
          rw [ix_num V ρ _ (done_all m HMM.out c hc2), ← hn, ht])
        cases t with
        | false => exact Den.same HQ.out.wf hd (Den.zero HQ.out.wf)
        | true => exact Den.same HQ.out.wf hd (Den.one HQ.out.wf)
      have hnn : ((xk : Int) == (t.toNat : Int)) = true := by rw [hxk]; simp
      rw [← hn]
      clear hn ht hxk hi
      go_wp2_with fail
      refine (awake05 wr).mono ?_
      rintro e w10 ⟨rfl, hb10⟩
      have H10 := Lib.hid (HQ.out.below hb10)
      clear hb10
      go_wp2_with fail
      go_ret
      exact ⟨rfl, H10.out.toOSt.fin⟩
end Go.Proofs.Ytffkehefkmdadaa

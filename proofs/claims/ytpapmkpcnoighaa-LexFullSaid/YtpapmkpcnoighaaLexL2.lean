/- LexFull: the walk. -/
import Derived.Test.YtpapmkpcnoighaaLexD
namespace Go.Proofs.Ytpapmkpcnoighaa
open Go.RowKit LP
/-! ### the plain law -/
theorem one_semi (X : List UInt8) : oneL (59 :: X) = (3, 1) := by
  have e : oneL (59 :: X) = (3, markL (59 :: X)) := rfl
  rw [e]
  cases X with
  | nil => rfl
  | cons c t =>
    unfold markL
    have e2 : (59 :: c :: t : List UInt8).take 2 = [59, c] := rfl
    rw [e2, if_neg (by simp)]
    rfl
theorem skip_blank32 (k : Nat) : skipF false (List.replicate k 32) = k := by
  induction k with
  | zero => rfl
  | succ k ih => rw [List.replicate_succ, skipF, if_pos (by decide), ih]; omega
theorem lex_semis (k : Nat) (n : Nat) : ∀ (a c : Nat), c ≤ 4096 →
    (c + n ≤ 4096 → ∃ l, lex (List.replicate n 59 ++ List.replicate k 32) a c = (l, 0, 0) ∧ l.length = n) ∧
    (4096 < c + n → lex (List.replicate n 59 ++ List.replicate k 32) a c = ([], a + (4096 - c), 2)) := by
  induction n with
  | zero =>
    intro a c hc
    refine ⟨fun _ => ⟨[], ?_, rfl⟩, fun h => absurd h (by omega)⟩
    rw [List.replicate_zero, List.nil_append]
    exact lex_end _ _ _ (by rw [skip_blank32]; simp)
  | succ n ih =>
    intro a c hc
    have h := lex_at (59 :: (List.replicate n 59 ++ List.replicate k 32)) a c 59 _ rfl (by decide) (by decide)
    rw [one_semi] at h
    have e : List.replicate (n + 1) (59 : UInt8) ++ List.replicate k 32 = 59 :: (List.replicate n 59 ++ List.replicate k 32) := by rw [List.replicate_succ]; rfl
    rw [e, h]
    rw [if_neg (by decide)]
    by_cases h4 : 4096 ≤ c
    · rw [if_pos h4]
      refine ⟨fun h5 => absurd h5 (by omega), fun _ => ?_⟩
      rw [show a + (4096 - c) = a by omega]
    · rw [if_neg h4]
      have hi := ih (a + 1) (c + 1) (by omega)
      have ed : (59 :: (List.replicate n 59 ++ List.replicate k 32) : List UInt8).drop 1 = List.replicate n 59 ++ List.replicate k 32 := rfl
      refine ⟨fun h5 => ?_, fun h5 => ?_⟩
      · obtain ⟨l, hl, hll⟩ := hi.1 (by omega)
        exact ⟨_ :: l, by rw [ed, hl]; rfl, by simp [hll]⟩
      · rw [ed, hi.2 (by omega)]
        unfold put1
        rw [if_neg (show ¬ ((2 : Nat) = 0) by decide), show a + 1 + (4096 - (c + 1)) = a + (4096 - c) by omega]
set_option maxRecDepth 100000 in
theorem i64_and_le (x : Int) (b : Nat) (hb : b ≤ 65535) : ∃ k : Nat, bits .and .i64 x (b : Int) = (k : Int) ∧ k ≤ b := by
  refine ⟨(BitVec.ofInt 64 x).toNat &&& b, ?_, Nat.and_le_right⟩
  show IntKind.i64.wrap ((BitVec.ofInt 64 x &&& BitVec.ofInt 64 (b : Int)).toNat : Int) = _
  rw [BitVec.toNat_and, BitVec.ofInt_natCast, BitVec.toNat_ofNat, Nat.mod_eq_of_lt (by omega)]
  have h : (BitVec.ofInt 64 x).toNat &&& b ≤ b := Nat.and_le_right
  generalize (BitVec.ofInt 64 x).toNat &&& b = z at h
  rw [IntKind.wrap_i64]
  omega
def semis (n k : Nat) : List Int := List.replicate n 59 ++ List.replicate k 32
theorem semis_len (n k : Nat) : (semis n k).length = n + k := by simp [semis]
theorem semis_at (n k i : Nat) (h : i < n + k) : (semis n k).getD i 0 = if i < n then 59 else 32 := by
  unfold semis
  rw [List.getD_eq_getElem?_getD]
  by_cases hi : i < n
  · rw [if_pos hi, List.getElem?_append_left (by simpa using hi)]; simp [hi]
  · rw [if_neg hi, List.getElem?_append_right (by simp; omega)]; simp [show i - n < k by omega]
theorem semis_str (n k : Nat) : (strOfNums (semis n k)).data.toList = List.replicate n 59 ++ List.replicate k 32 := by
  simp [strOfNums, semis]
theorem info_byte : (Try.prog.info? 5).map (fun i => (i.zero, i.size, i.bytes)) = some (some (.int .u8 0), 1, 1) := by kernel_rfl
set_option maxRecDepth 100000 in
set_option maxHeartbeats 400000 in
theorem lexFull_walk (w : World) (x : Int) (_ : (Lit.int .i64 x).wf = true) (y : Int) (_ : (Lit.int .i64 y).wf = true) : Calls Try.prog 6 #[.int .i64 x, .int .i64 y] w (Fine w) := by
  have hA := Lib.hid awake10
  obtain ⟨p, hp, hple⟩ := i64_and_le x 3 (by decide)
  obtain ⟨q, hq, hqle⟩ := i64_and_le y 65535 (by decide)
  have hp2 : bits .and .i64 x 3 = (p : Int) := hp
  have hq2 : bits .and .i64 y 65535 = (q : Int) := hq
  clear hp hq
  obtain ⟨n, hn⟩ : ∃ n : Nat, n = 4095 + p := ⟨_, rfl⟩
  obtain ⟨k, hk⟩ : ∃ k : Nat, k = q % 16384 := ⟨_, rfl⟩
  obtain ⟨N, hN⟩ : ∃ N : Nat, N = n + k := ⟨_, rfl⟩
  have in1 : (4095 : Int) + (p : Int) = (n : Int) := by omega
  have in2 : (q : Int).tmod 16384 = (k : Int) := by rw [hk, Int.tmod_eq_emod_of_nonneg (by omega)]; omega
  have in3 : (n : Int) + (k : Int) = (N : Int) := by omega
  have nl : n ≤ 4098 := by omega
  have ng : 4095 ≤ n := by omega
  have Nl : N ≤ 20481 := by omega
  have HN := Lib.hid hN
  clear hn hk hN hple hqle
  obtain ⟨i0, hi, hz0, hz1, hz2⟩ := info_parts info_byte
  have hmk := fun W => run_make_n 32 5 i0 (.int .u8 0) 1 1 Try.underlying32 hi hz0 hz1 hz2 .i64 .i64 N N (Nat.le_refl _) (by omega) (by omega) W
  have hsz : (madeCells (Value.int .u8 0).cells (N * 1)).size = N := by simp [madeCells, Value.cells]
  generalize madeCells (Value.int .u8 0).cells (N * 1) = C at hmk hsz
  clear hi hz0 hz1 hz2
  go_enter Try.func6, Try.ntmps6
  go_wp2_with fail
  go_loopg [7] N (fun m v wr => ∃ j : Nat, m + j = N ∧ v = .int .i64 (j : Int) ∧ (∃ cs : Array Value, Blk wr w.heap.size 5 cs ∧ cs.size = N ∧ ∀ i, i < j → cs[i]? = some (.int .u8 (if i < n then 59 else 32))) ∧ Below w.heap.size w wr)
  case atStart => exact ⟨0, rfl, rfl, ⟨C, Blk.new_ _ _ _, hsz, fun i h => absurd h (by omega)⟩, (Below.refl _ _).alloc (Nat.le_refl _) _⟩
  case round =>
    obtain ⟨j, hmj, rfl, ⟨cs, hblk, hcs, hfill⟩, hB⟩ := hrel
    have HM := Lib.hid hmj; have HF := Lib.hid hfill; have HB := Lib.hid hB; have HBL := Lib.hid hblk; have HCS := Lib.hid hcs
    clear hmj hfill hB hcs hsz
    by_cases hj : j < N
    · have hcell : ∃ u, wr.cell? ⟨w.heap.size, j, none⟩ = some u := ⟨cs[j]'(by rw [HCS.out]; exact hj), by rw [hblk.cell]; exact Array.getElem?_eq_getElem _⟩
      obtain ⟨u, hu⟩ := hcell
      have hfr := hblk.frozen j
      clear hblk
      by_cases hjn : j < n
      · have htw : (if j < n then (59 : Int) else 32) = 59 := if_pos hjn
        have HT := Lib.hid htw; clear htw
        go_wp2_with fail
        go_roundg (N - (j + 1))
        case measure => have := HM.out; omega
        case rel =>
          refine ⟨j + 1, by omega, by go_num, ⟨_, (HBL.out.set_ j (.int .u8 32)).set_ j (.int .u8 59), by simp [HCS.out], ?_⟩, ?_⟩
          · intro i hi
            rcases Nat.lt_or_ge i j with h2 | h2
            · rw [Array.getElem?_setIfInBounds_ne (by omega), Array.getElem?_setIfInBounds_ne (by omega)]; exact HF.out i h2
            · have e : i = j := by omega
              subst e
              rw [HT.out, Array.getElem?_setIfInBounds_self_of_lt (by simp [HCS.out]; exact hj)]
          · exact (HB.out.setCell (Nat.le_refl _) _).setCell (Nat.le_refl _) _
      · have htw : (if j < n then (59 : Int) else 32) = 32 := if_neg hjn
        have HT := Lib.hid htw; clear htw
        have hjn2 : n ≤ j := by omega
        clear hjn
        go_wp2_with fail
        go_roundg (N - (j + 1))
        case measure => have := HM.out; omega
        case rel =>
          refine ⟨j + 1, by omega, by go_num, ⟨_, HBL.out.set_ j (.int .u8 32), by simp [HCS.out], ?_⟩, ?_⟩
          · intro i hi
            rcases Nat.lt_or_ge i j with h2 | h2
            · rw [Array.getElem?_setIfInBounds_ne (by omega)]; exact HF.out i h2
            · have e : i = j := by omega
              subst e
              rw [HT.out, Array.getElem?_setIfInBounds_self_of_lt (by simp [HCS.out]; exact hj)]
          · exact HB.out.setCell (Nat.le_refl _) _
    · have hge : N ≤ j := by omega
      have hcv : ∀ W, (∀ i, i < N → W.cell? ⟨w.heap.size, 0 + i, none⟩ = some (.int .u8 ((semis n k).getD i 0))) → (convert 32 9 (.slice (some ⟨w.heap.size, 0, none⟩) N N)).run Try.prog W = .ok (.string (strOfNums (semis n k))) W := fun W hc =>
        run_convert_bytes_arg W 32 5 Try.underlying32 Try.underlying5 w.heap.size 0 N N (semis n k) (by rw [semis_len, HN.out]) hc 9 Try.underlying9
      have hcv2 := hcv wr (fun i hi => by
        rw [Nat.zero_add, HBL.out.cell, HF.out i (by omega), semis_at n k i (by rw [← HN.out]; exact hi)])
      obtain ⟨T, hT⟩ : ∃ T, T = strOfNums (semis n k) := ⟨_, rfl⟩
      rw [← hT] at hcv2
      have HTT := Lib.hid hT
      have hTl : T.data.toList = List.replicate n 59 ++ List.replicate k 32 := by rw [hT]; exact semis_str n k
      have hTs : T.size = N := by rw [Lib.size_eq, hTl, HN.out]; simp
      have HTL := Lib.hid hTl; have HTS := Lib.hid hTs
      clear hcv hT hTl hTs hblk hj hmk
      have hls := lex_semis k n 0 0 (by omega)
      have HLS := Lib.hid hls; clear hls
      by_cases h1 : 16384 < N
      · have hsig : Sig T = ([], 0, 1) := by unfold Sig; rw [if_pos (by rw [HTS.out]; exact h1)]
        have HSG := Lib.hid hsig; clear hsig
        go_wp2_with fail
        refine (signs_ok T (by unfold maxLen; rw [HTS.out]; omega) _).mono ?_
        rintro e w1 ⟨v1, rfl, hown1, hb1⟩
        rw [HSG.out] at hown1 ⊢
        obtain ⟨oa, oc, rfl⟩ := own_shape hown1
        have HB1 := Lib.hid (HB.out.trans (hb1.mono HB.out.size))
        clear hown1 hb1
        go_wp2_with fail
        refine (hA.out _).mono ?_
        rintro e w4 ⟨rfl, hb4⟩
        have HB4 := Lib.hid (HB1.out.trans (hb4.mono HB1.out.size))
        clear hb4
        go_wp2_with fail
        go_ret
        exact ⟨rfl, HB4.out⟩
      · have hNs : N ≤ 16384 := by omega
        by_cases h2 : 4096 < n
        · have hsig : Sig T = ([], 4096, 2) := by
            unfold Sig; rw [if_neg (by rw [HTS.out]; exact h1), HTL.out, HLS.out.2 (by omega)]
          have HSG := Lib.hid hsig; clear hsig
          clear h1
          go_wp2_with fail
          refine (signs_ok T (by unfold maxLen; rw [HTS.out]; omega) _).mono ?_
          rintro e w1 ⟨v1, rfl, hown1, hb1⟩
          rw [HSG.out] at hown1 ⊢
          obtain ⟨oa, oc, rfl⟩ := own_shape hown1
          have HB1 := Lib.hid (HB.out.trans (hb1.mono HB.out.size))
          clear hown1 hb1
          go_wp2_with fail
          refine (hA.out _).mono ?_
          rintro e w4 ⟨rfl, hb4⟩
          have HB4 := Lib.hid (HB1.out.trans (hb4.mono HB1.out.size))
          clear hb4
          go_wp2_with fail
          go_ret
          exact ⟨rfl, HB4.out⟩
        · have hn4 : n ≤ 4096 := by omega
          obtain ⟨l, hl, hll⟩ := HLS.out.1 (by omega)
          have hsig : Sig T = (l, 0, 0) := by
            unfold Sig; rw [if_neg (by rw [HTS.out]; exact h1), HTL.out, hl]
          have HSG := Lib.hid hsig; have HLL := Lib.hid hll; clear hsig hl hll
          clear h1 h2
          go_wp2_with fail
          refine (signs_ok T (by unfold maxLen; rw [HTS.out]; omega) _).mono ?_
          rintro e w1 ⟨v1, rfl, hown1, hb1⟩
          rw [HSG.out] at hown1 ⊢
          simp only [HLL.out] at hown1
          obtain ⟨oa, oc, rfl⟩ := own_shape hown1
          have HB1 := Lib.hid (HB.out.trans (hb1.mono HB.out.size))
          clear hown1 hb1
          go_wp2_with fail
          refine (hA.out _).mono ?_
          rintro e w4 ⟨rfl, hb4⟩
          have HB4 := Lib.hid (HB1.out.trans (hb4.mono HB1.out.size))
          clear hb4
          go_wp2_with fail
          go_ret
          exact ⟨rfl, HB4.out⟩
end Go.Proofs.Ytpapmkpcnoighaa

/- Layer 6 in plain Lean, for CountMany: a store of many variables with one node, that asks the last. -/
import Derived.Test.YtoegenacjhmicaaCountZ
import Derived.Test.YtoegenacjhmicaaCountPR
namespace Go.Proofs.Ytoegenacjhmicaa
open Go.RowKit HP NP
def maL (n : Nat) : List Nd := [⟨true, n, 0, 0, 0⟩, ⟨true, n, 1, 1, 0⟩, ⟨true, n - 1, 0, 1, 0⟩]
def maS (n : Nat) : NS := ⟨n, 10, maL n, 1, 0⟩
theorem ma_nd2 (n : Nat) : nd (maS n).l 2 = ⟨true, n - 1, 0, 1, 0⟩ := rfl
theorem ma_is (n : Nat) : isB (maS n).l 2 = true := rfl
theorem ma_mk (n : Nat) (h1 : 1 ≤ n) : mkS (newS n 10) ((n - 1 : Nat) : Int) 0 1 = (maS n, 2, 0) := by
  have hok : okMk (newS n 10) ((n - 1 : Nat) : Int) 0 1 = true := by
    unfold okMk
    rw [show (isK (newS n 10).l 0) = true from rfl, show (isK (newS n 10).l 1) = true from rfl, show (nd (newS n 10).l (Int.toNat 0)).v = n from rfl, show (nd (newS n 10).l (Int.toNat 1)).v = n from rfl, show (newS n 10).vars = n from rfl]
    simp only [Bool.true_and, Bool.and_eq_true, decide_eq_true_eq]
    omega
  have hf : findK (newS n 10).l (((n - 1 : Nat) : Int), 0, 1) = none := by
    cases h : findK (newS n 10).l (((n - 1 : Nat) : Int), 0, 1) with
    | none => rfl
    | some k =>
      obtain ⟨h2, h3, _⟩ := findK_some h
      have h4 : k < 2 := isB_lt h3
      omega
  unfold mkS
  rw [if_pos hok, if_neg (by decide), hf]
  show (if 10 ≤ NP.cnt (base2 n) then _ else _) = _
  rw [if_neg (by rw [show NP.cnt (base2 n) = 2 from rfl]; decide)]
  rfl
theorem ma_ask {n : Nat} (hW : Wf (maS n)) (v : Nat) : askB (maS n).l 2 v = ((n - 1) == v) := by
  rw [askB_step hW v (by decide) (ma_is n), ma_nd2]
  show ((n - 1) == v || (askB (maS n).l 0 v || askB (maS n).l 1 v)) = _
  rw [askB_leaf _ _ (show 0 < 2 by decide), askB_leaf _ _ (show 1 < 2 by decide)]
  simp
theorem ma_asks {n : Nat} (hW : Wf (maS n)) (v : Nat) : v ∈ asksL (maS n) 2 ↔ v = n - 1 := by
  rw [mem_asksL hW (ma_is n), ma_ask hW, beq_iff_eq]
  exact eq_comm
/-- the first so many numbers -/
def upZ (n : Nat) : List Int := nZ (List.range n)
theorem upZ_len (n : Nat) : (upZ n).length = n := by simp [upZ, nZ]
theorem upZ_rise (n : Nat) : (upZ n).Pairwise (· < ·) := nZ_rise List.pairwise_lt_range
theorem upZ_srt (n : Nat) : srt (upZ n) = upZ n := srt_self ((upZ_rise n).imp fun h => by omega)
theorem upZ_mem (n : Nat) (z : Int) : z ∈ upZ n ↔ 0 ≤ z ∧ z < (n : Int) := by
  unfold upZ nZ
  rw [List.mem_map]
  constructor
  · rintro ⟨k, hk, rfl⟩
    have := List.mem_range.1 hk
    omega
  · rintro ⟨h0, h1⟩
    exact ⟨z.toNat, List.mem_range.2 (by omega), by omega⟩
theorem upZ_at {n i : Nat} (h : i < n) : (upZ n)[i]? = some (i : Int) := by
  unfold upZ nZ
  rw [List.getElem?_map, List.getElem?_range h]; rfl
theorem upZ_nodup (n : Nat) : (upZ n).Nodup := (upZ_rise n).imp fun h => by omega
theorem upZ_wf {n : Nat} (hn : n ≤ 256) : ∀ z ∈ upZ n, (Lit.int .i64 z).wf = true := fun z h => WalkArith.wf_i64 (by have := (upZ_mem n z).1 h; omega)
theorem upZ_okV {n m : Nat} (h : m ≤ n) : okV (maS n) (upZ m) := ⟨fun z hz => by
  have := (upZ_mem m z).1 hz
  exact inV_iff.2 ⟨this.1, show z < (n : Int) by omega⟩, upZ_nodup m⟩
theorem ma_all {n : Nat} (hW : Wf (maS n)) (h1 : 1 ≤ n) : withE (maS n) 2 (upZ n) = 0 := withE_ok (upZ_okV (Nat.le_refl n)) (ma_is n) fun v hv => by
  rw [(ma_asks hW v).1 hv]
  exact (upZ_mem n _).2 (by omega)
theorem ma_less {n : Nat} (hW : Wf (maS n)) (h1 : 1 ≤ n) : withE (maS n) 2 (upZ (n - 1)) = 1 := withE_ask (upZ_okV (by omega)) (ma_is n) fun h => by
  have := (upZ_mem (n - 1) _).1 (h (n - 1) ((ma_asks hW _).2 rfl))
  omega
theorem ma_one {n : Nat} (hW : Wf (maS n)) (h1 : 1 ≤ n) : withE (maS n) 2 [((n - 1 : Nat) : Int)] = 0 := withE_ok ⟨fun z hz => by
  rw [List.mem_singleton.1 hz]
  exact inV_iff.2 ⟨by omega, show ((n - 1 : Nat) : Int) < (n : Int) by omega⟩, by simp⟩ (ma_is n) fun v hv => by
  rw [(ma_asks hW v).1 hv]; exact List.mem_singleton.2 rfl
/-- how many values, where the last variable is the last of N levels -/
theorem ma_satT {n N : Nat} (hW : Wf (maS n)) (hN : 1 ≤ N) {m : Nat → Option Nat} (hm : m (n - 1) = some (N - 1)) : satT m N (maS n) 2 = if 61 < N - 1 then 4611686018427387903 else ((2 ^ (N - 1) : Nat) : Int) := by
  have hl : levK (lvO m) N (maS n).l 2 = N - 1 := by
    unfold levK lvO
    rw [if_neg (by decide), ma_nd2, hm]; rfl
  have h1 : levK (lvO m) N (maS n).l 1 = N := rfl
  have h0 : levK (lvO m) N (maS n).l 0 = N := rfl
  have hv : satV m N (maS n) 2 = 1 := by
    unfold satV
    rw [satB_step addS mulS powS (lvO m) N hW (by decide) (ma_is n), ma_nd2, satB_leaf _ _ _ _ _ _ (show 0 < 2 by decide), satB_leaf _ _ _ _ _ _ (show 1 < 2 by decide), hl]
    show addS (mulS ((0 : Nat) : Int) (powS ((levK (lvO m) N (maS n).l 0 : Int) - _))) (mulS ((1 : Nat) : Int) (powS ((levK (lvO m) N (maS n).l 1 : Int) - _))) = 1
    rw [h0, h1, show ((N : Int) - (((N - 1 : Nat) : Int) + 1)) = 0 by omega]
    decide
  unfold satT
  rw [hv, hl]
  by_cases h : 61 < N - 1
  · rw [if_pos h]
    unfold powS
    rw [if_pos (by omega)]
    decide
  · rw [if_neg h, powS_in _ (by omega), show (max ((N - 1 : Nat) : Int) 0).toNat = N - 1 by omega]
    have hp : 2 ^ (N - 1) ≤ 2 ^ 61 := Nat.pow_le_pow_right (n := 2) (by decide) (by omega)
    have hp1 : (1 : Nat) ≤ 2 ^ (N - 1) := Nat.one_le_two_pow
    rw [show ((2 : Int) ^ (N - 1)) = ((2 ^ (N - 1) : Nat) : Int) by rw [Int.natCast_pow]; rfl]
    obtain ⟨q, hq⟩ : ∃ q, 2 ^ (N - 1) = q := ⟨_, rfl⟩
    rw [hq] at hp hp1 ⊢
    have hp2 : (q : Int) ≤ 4611686018427387903 := by omega
    unfold mulS
    rw [cnt_in 1 (by decide) (by decide), cnt_in (q : Int) (by omega) hp2, Int.one_mul]
    omega
theorem ma_pos {n : Nat} (h1 : 1 ≤ n) {m : Nat → Option Nat} (h : PosOf (srt (upZ n)) m) : m (n - 1) = some (n - 1) := by
  rw [upZ_srt] at h
  exact (h _ _).2 (upZ_at (by omega))
theorem ma_pos1 {n : Nat} {m : Nat → Option Nat} (h : PosOf (srt [((n - 1 : Nat) : Int)]) m) : m (n - 1) = some (1 - 1) := by
  rw [srt_self (by simp)] at h
  exact (h _ _).2 rfl
theorem ma_cubes {n : Nat} (hW : Wf (maS n)) : (cubes (maS n) 2).length ≤ 1 := by
  unfold cubes
  rw [cubB_step hW _ (by decide) (ma_is n), ma_nd2, cubB_zero, cubB_one]
  simp
theorem ma_cubE {n : Nat} (hW : Wf (maS n)) : cubE (maS n) 2 16384 = 0 := cubE_ok (by decide) (ma_is n) (by
  have := ma_cubes hW
  rw [show (Int.toNat 2) = 2 from rfl]
  omega)
theorem upZ_take (n : Nat) : (upZ n).take (n - 1) = upZ (n - 1) := by
  unfold upZ nZ
  rw [← List.map_take, List.take_range]
  congr 2
  omega
theorem iV_up (n : Nat) : iV (List.range n) = zV (upZ n) := iV_nZ _
/-! ### what count says of it -/
section
variable {w : World} {B p n : Nat}
def manyT (n : Nat) : Int := if 61 < n - 1 then 4611686018427387903 else ((2 ^ (n - 1) : Nat) : Int)
theorem many_sat (h : Sto w B p (maS n)) (h1 : 1 ≤ n) (hn : n ≤ 256) {a : Option Addr} {c : Nat} (hc : Cells w a (zV (upZ n))) :
    Calls Try.prog 30 #[.pointer (some ⟨p, 0, none⟩), .int .i64 2, .slice a n c] w fun e w' => e = .returned (.tuple #[.int .i64 (manyT n), .int .i64 0]) ∧ Below w.heap.size w w' := by
  have hs := csat_ok w B p (maS n) h 2 a (upZ n) c (by rw [upZ_len]; omega) hc (upZ_wf hn)
  rw [upZ_len] at hs
  refine hs.mono ?_
  rintro e w' ⟨hb, ⟨h2, _⟩ | ⟨_, m, hm, rfl⟩⟩
  · exact absurd (ma_all h.wf h1) h2
  · refine ⟨?_, hb⟩
    rw [upZ_len, show (Int.toNat 2) = 2 from rfl, ma_satT h.wf h1 (ma_pos h1 hm)]; rfl
theorem many_one (h : Sto w B p (maS n)) (h1 : 1 ≤ n) (hn : n ≤ 256) {a : Option Addr} {c : Nat} (hc : Cells w a (zV [((n - 1 : Nat) : Int)])) :
    Calls Try.prog 30 #[.pointer (some ⟨p, 0, none⟩), .int .i64 2, .slice a 1 c] w fun e w' => e = .returned (.tuple #[.int .i64 1, .int .i64 0]) ∧ Below w.heap.size w w' := by
  have hs := csat_ok w B p (maS n) h 2 a [((n - 1 : Nat) : Int)] c (by simp) hc (fun z hz => by
    rw [List.mem_singleton.1 hz]; exact WalkArith.wf_i64 (by omega))
  refine hs.mono ?_
  rintro e w' ⟨hb, ⟨h2, _⟩ | ⟨_, m, hm, rfl⟩⟩
  · exact absurd (ma_one h.wf h1) h2
  · refine ⟨?_, hb⟩
    rw [show (Int.toNat 2) = 2 from rfl, show ([((n - 1 : Nat) : Int)] : List Int).length = 1 from rfl, ma_satT h.wf (Nat.le_refl 1) (ma_pos1 hm)]; rfl
theorem many_less (h : Sto w B p (maS n)) (h1 : 1 ≤ n) (hn : n ≤ 256) {a : Option Addr} {c : Nat} (hc : Cells w a (zV (upZ (n - 1)))) :
    Calls Try.prog 30 #[.pointer (some ⟨p, 0, none⟩), .int .i64 2, .slice a (n - 1) c] w fun e w' => e = .returned (.tuple #[.int .i64 0, .int .i64 1]) ∧ Below w.heap.size w w' := by
  have hs := csat_ok w B p (maS n) h 2 a (upZ (n - 1)) c (by rw [upZ_len]; omega) hc (upZ_wf (by omega))
  rw [upZ_len] at hs
  refine hs.mono ?_
  rintro e w' ⟨hb, ⟨_, rfl⟩ | ⟨h2, _⟩⟩
  · refine ⟨?_, hb⟩
    rw [ma_less h.wf h1]
  · rw [ma_less h.wf h1] at h2; cases h2
theorem many_each (h : Sto w B p (maS n)) (h1 : 1 ≤ n) (hn : n ≤ 256) {a : Option Addr} {c : Nat} (hc : Cells w a (zV (upZ n))) :
    Calls Try.prog 32 #[.pointer (some ⟨p, 0, none⟩), .int .i64 2, .slice a n c, .int .i64 16] w fun e w' => Below w.heap.size w w' ∧ ∃ v x, e = .returned (.tuple #[v, .int .i64 x]) ∧ (x == 0) = decide (n ≤ 5) := by
  have key : ∀ m, PosOf (srt (upZ n)) m → satT m n (maS n) 2 ≤ 16 → n ≤ 5 := fun m hm hle => by
    rw [ma_satT h.wf h1 (ma_pos h1 hm)] at hle
    rcases Nat.lt_or_ge 5 n with h5 | h5
    · exfalso
      split at hle
      · omega
      · have : 2 ^ 5 ≤ 2 ^ (n - 1) := Nat.pow_le_pow_right (by decide) (by omega)
        omega
    · exact h5
  have hs := each_ok w B p (maS n) h h1 2 a (upZ n) c (by rw [upZ_len]; omega) hc (upZ_wf hn) 16 (by rw [upZ_len, show (Int.toNat 2) = 2 from rfl]; exact key)
  rw [upZ_len] at hs
  refine hs.mono ?_
  unfold EachPost
  rw [upZ_len, show (Int.toNat 2) = 2 from rfl]
  rintro e w' ⟨hb, ⟨hbad, rfl⟩ | ⟨_, h2, _⟩ | ⟨hbad, _, m, hm, h3⟩⟩
  · refine ⟨hb, _, _, rfl, ?_⟩
    unfold eachBad at hbad
    rw [decide_eq_false (by omega)]; rfl
  · exact absurd (ma_all h.wf h1) h2
  · rcases h3 with ⟨h4, rfl⟩ | ⟨_, h4, _⟩ | ⟨h4, _, y, rfl, _⟩
    · refine ⟨hb, _, _, rfl, ?_⟩
      rw [ma_satT h.wf h1 (ma_pos h1 hm)] at h4
      unfold eachBad at hbad
      rw [if_neg (by omega)] at h4
      rcases Nat.lt_or_ge 5 n with h5 | h5
      · rw [decide_eq_false (by omega)]; rfl
      · have : 2 ^ (n - 1) ≤ 2 ^ 4 := Nat.pow_le_pow_right (by decide) (by omega)
        omega
    · exact absurd (ma_cubE h.wf) h4
    · refine ⟨hb, _, _, rfl, ?_⟩
      rw [decide_eq_true (key m hm h4)]; rfl
end
end Go.Proofs.Ytoegenacjhmicaa

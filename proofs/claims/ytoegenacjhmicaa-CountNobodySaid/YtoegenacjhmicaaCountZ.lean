/- Layer 6: a store of four variables: how many cubes, how many values, which numbers. -/
import Derived.Test.YtoegenacjhmicaaCountY
namespace Go.Proofs.Ytoegenacjhmicaa
open Go.RowKit HP NP
theorem cub_few {S : NS} (h : Wf S) : ∀ k, isB S.l k = true → ∀ way, (cubB S.l k way).length ≤ 2 ^ (S.vars - (nd S.l k).v) := by
  refine cub_ind h (fun k way hk => ?_) fun k way h2 hk il ih => ?_
  · have hp : 0 < 2 ^ (S.vars - (nd S.l k).v) := Nat.pow_pos (by decide)
    rcases (by omega : k = 0 ∨ k = 1) with rfl | rfl
    · rw [cubB_zero]; exact Nat.zero_le _
    · rw [cubB_one]; exact hp
  · obtain ⟨hv, _, h3, h4, h5, h6⟩ := h.kid k h2 hk
    have hl := il (way.set (nd S.l k).v 0)
    have hh := ih (way.set (nd S.l k).v 1)
    have p1 : 2 ^ (S.vars - (nd S.l (nd S.l k).low).v) ≤ 2 ^ (S.vars - (nd S.l k).v - 1) := Nat.pow_le_pow_right (by decide) (by omega)
    have p2 : 2 ^ (S.vars - (nd S.l (nd S.l k).high).v) ≤ 2 ^ (S.vars - (nd S.l k).v - 1) := Nat.pow_le_pow_right (by decide) (by omega)
    have p3 : 2 ^ (S.vars - (nd S.l k).v) = 2 * 2 ^ (S.vars - (nd S.l k).v - 1) := by
      rw [show S.vars - (nd S.l k).v = (S.vars - (nd S.l k).v - 1) + 1 by omega, Nat.pow_succ, Nat.mul_comm, Nat.add_sub_cancel]
    rw [cubB_step h way h2 hk, List.length_append]
    omega
theorem cubes_few {S : NS} (h : Wf S) (h4 : S.vars = 4) {k : Nat} (hk : isB S.l k = true) : (cubes S k).length ≤ 16 := by
  have h1 := cub_few h k hk (way2 S.vars)
  have h2 : 2 ^ (S.vars - (nd S.l k).v) ≤ 2 ^ 4 := Nat.pow_le_pow_right (by decide) (by omega)
  unfold cubes
  omega
def fourZ : List Int := [0, 1, 2, 3]
theorem four_srt : srt fourZ = fourZ := srt_self (by decide)
theorem addS_low (a b : Nat) (ha : a ≤ 16) (hb : b ≤ 16) : addS a b = ((a + b : Nat) : Int) := by unfold addS cnt; omega
theorem mulS_low (a b : Nat) (ha : a ≤ 16) (hb : b ≤ 16) : mulS a b = ((a * b : Nat) : Int) := by
  have h : a * b ≤ 16 * 16 := Nat.mul_le_mul ha hb
  unfold mulS
  rw [cnt_in (a : Int) (by omega) (by omega), cnt_in (b : Int) (by omega) (by omega), ← Int.natCast_mul]
  omega
theorem powS_low (n : Nat) (hn : n ≤ 4) : powS n = ((2 ^ n : Nat) : Int) := by
  rw [powS_in _ (by omega), show (max (n : Int) 0).toNat = n by omega, Int.natCast_pow]; rfl
/-- any order of the four variables -/
structure Ord4 (zs : List Int) : Prop where
  len : zs.length = 4
  nod : zs.Nodup
  ins : ∀ z ∈ zs, 0 ≤ z ∧ z < 4
theorem Ord4.all {zs : List Int} (h : Ord4 zs) {v : Nat} (hv : v < 4) : (v : Int) ∈ zs := by
  obtain ⟨h1, h2, h3⟩ := h
  match zs, h1 with
  | [a, b, c, d], _ =>
    have i := h3 a (by simp); have j := h3 b (by simp); have k := h3 c (by simp); have l := h3 d (by simp)
    simp at h2
    simp only [List.mem_cons, List.not_mem_nil, or_false]
    omega
theorem Ord4.srt {zs : List Int} (h : Ord4 zs) : srt zs = fourZ := by
  have hp : zs.Perm fourZ := by
    refine (List.perm_ext_iff_of_nodup h.nod (by decide)).2 fun z => ?_
    constructor
    · intro hz
      have := h.ins z hz
      rcases (by omega : z = 0 ∨ z = 1 ∨ z = 2 ∨ z = 3) with rfl | rfl | rfl | rfl <;> decide
    · intro hz
      have hz2 : z = 0 ∨ z = 1 ∨ z = 2 ∨ z = 3 := by simpa [fourZ] using hz
      rcases hz2 with rfl | rfl | rfl | rfl
      · exact h.all (v := 0) (by decide)
      · exact h.all (v := 1) (by decide)
      · exact h.all (v := 2) (by decide)
      · exact h.all (v := 3) (by decide)
  show zs.mergeSort _ = _
  exact (mergeSort_of_perm_i hp).trans four_srt
theorem four_ord : Ord4 fourZ := ⟨rfl, by decide, by decide⟩
section
variable {w0 w : World} {p : Nat} {S : NS} {k X : Nat}
theorem four_with (h : CSt w0 w p S) (hd : Den S k (tbl X)) {zs : List Int} (hz : Ord4 zs) : withE S (k : Int) zs = 0 := withE_ok ⟨fun z hm => by
  have := hz.ins z hm
  exact inV_iff.2 ⟨this.1, by rw [h.v4]; exact this.2⟩, hz.nod⟩ (by rw [isK_nat]; exact hd.is) fun v hv => by
    rw [Int.toNat_natCast] at hv
    rw [asksL_tbl h.sto.wf h.v4 hd] at hv
    exact hz.all (List.mem_range.1 (List.mem_filter.1 hv).1)
theorem four_lv {zs : List Int} (hz : Ord4 zs) {m : Nat → Option Nat} (hm : PosOf (srt zs) m) : ∀ v, v < 4 → lvO m v = v := fun v hv => by
  rw [hz.srt] at hm
  unfold lvO
  rw [(hm v v).2 (by
    rcases (by omega : v = 0 ∨ v = 1 ∨ v = 2 ∨ v = 3) with rfl | rfl | rfl | rfl <;> rfl)]
  rfl
theorem four_sat (h : CSt w0 w p S) (hd : Den S k (tbl X)) {zs : List Int} (hz : Ord4 zs) {m : Nat → Option Nat} (hm : PosOf (srt zs) m) : satT m zs.length S ((k : Int)).toNat = (numT X : Int) := by
  rw [hz.len, Int.toNat_natCast]
  exact satA_tbl h.sto.wf h.v4 addS_low mulS_low powS_low (four_lv hz hm) hd
theorem four_cubE (h : CSt w0 w p S) (hd : Den S k (tbl X)) : cubE S (k : Int) 16384 = 0 := cubE_ok (by decide) (by rw [isK_nat]; exact hd.is) (by
  rw [Int.toNat_natCast]
  have := cubes_few h.sto.wf h.v4 hd.is
  omega)
theorem four_each (h : CSt w0 w p S) (hd : Den S k (tbl X)) : eachL S (k : Int) fourZ = nZ (truesL X) := by
  unfold eachL
  rw [Int.toNat_natCast, show toNs fourZ = four from rfl]
  obtain ⟨l, hl⟩ : ∃ l, numsL (cubes S k) four = l := ⟨_, rfl⟩
  have hs := nums_four h.sto.wf h.v4 hd (s := l.mergeSort fun a b => decide (a ≤ b)) (by rw [hl]; exact List.mergeSort_perm l _) (by
    have := List.pairwise_mergeSort (le := fun a b : Nat => decide (a ≤ b)) (fun a b c => by simpa using Nat.le_trans) (fun a b => by simpa using Nat.le_total a b) l
    exact this.imp fun h => by simpa using h)
  have hp : (nZ l).Perm (nZ (truesL X)) := by
    rw [← hs]
    exact ((List.mergeSort_perm l _).symm).map _
  rw [hl]
  show (nZ l).mergeSort _ = _
  exact (mergeSort_of_perm_i hp).trans (srt_self ((nZ_rise (truesL_rise X)).imp fun h => by omega))
theorem Ord4.wf {zs : List Int} (hz : Ord4 zs) : ∀ z ∈ zs, (Lit.int .i64 z).wf = true := fun z h => WalkArith.wf_i64 (by have := hz.ins z h; omega)
theorem sat4_ok (h : CSt w0 w p S) (hd : Den S k (tbl X)) {zs : List Int} (hz : Ord4 zs) {a : Option Addr} {c : Nat} (hc : Cells w a (zV zs)) :
    Calls Try.prog 30 #[.pointer (some ⟨p, 0, none⟩), .int .i64 (k : Int), .slice a 4 c] w fun e w' => e = .returned (.tuple #[.int .i64 (numT X : Int), .int .i64 0]) ∧ Below w.heap.size w w' := by
  have hs := csat_ok w w0.heap.size p S h.sto (k : Int) a zs c (by rw [hz.len]; decide) hc hz.wf
  rw [hz.len] at hs
  refine hs.mono ?_
  rintro e w' ⟨hb, ⟨h1, _⟩ | ⟨_, m, hm, rfl⟩⟩
  · exact absurd (four_with h hd hz) h1
  · refine ⟨?_, hb⟩
    rw [four_sat h hd hz hm]
theorem each4_ok (h : CSt w0 w p S) (hd : Den S k (tbl X)) {zs : List Int} (hz : Ord4 zs) {a : Option Addr} {c : Nat} (hc : Cells w a (zV zs)) (most : Int) (h0 : 0 ≤ most) (h1 : most ≤ 16384) :
    Calls Try.prog 32 #[.pointer (some ⟨p, 0, none⟩), .int .i64 (k : Int), .slice a 4 c, .int .i64 most] w fun e w' => Below w.heap.size w w' ∧ ((most < (numT X : Int) ∧ e = .returned (.tuple #[.slice none 0 0, .int .i64 2])) ∨
      ((numT X : Int) ≤ most ∧ ∃ y, e = .returned (.tuple #[y, .int .i64 0]) ∧ w'.ownsRow w.heap.size 3 1 y (eachL S (k : Int) zs).length (zV (eachL S (k : Int) zs)))) := by
  have hs := each_ok w w0.heap.size p S h.sto (by rw [h.v4]; decide) (k : Int) a zs c (by rw [hz.len]; decide) hc hz.wf most (fun _ _ _ => by rw [hz.len]; decide)
  have hb0 : ¬ eachBad most zs.length := by unfold eachBad; rw [hz.len]; omega
  rw [hz.len] at hs
  refine hs.mono ?_
  rintro e w' ⟨hb, h⟩
  refine ⟨hb, ?_⟩
  rcases h with ⟨h, _⟩ | ⟨_, h, _⟩ | ⟨_, _, m, hm, h⟩
  · exact absurd h hb0
  · exact absurd (four_with ‹CSt w0 w p S› hd hz) h
  · rw [four_sat ‹CSt w0 w p S› hd hz hm] at h
    rcases h with ⟨h2, h3⟩ | ⟨_, h3, _⟩ | ⟨h2, _, h4⟩
    · exact .inl ⟨h2, h3⟩
    · exact absurd (four_cubE ‹CSt w0 w p S› hd) h3
    · exact .inr ⟨h2, h4⟩
end
theorem own_zV {w : World} {B n cap : Nat} {a : Option Addr} {l : List Int} (h : w.ownsRow B 3 1 (.slice a n cap) n (zV l)) : Cells w a (zV l) := by
  obtain ⟨oa, oc, e, _, _, hc⟩ := Cells.of_own h
  injection e with e1 e2 e3
  subst e1
  exact hc
end Go.Proofs.Ytoegenacjhmicaa

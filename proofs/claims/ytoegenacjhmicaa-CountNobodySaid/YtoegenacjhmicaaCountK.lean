/- Layer 6: what the walk of count.Each asks for: one number more, a sorted row, one row of a cube. -/
import Derived.Test.YtoegenacjhmicaaCountF
import Derived.Test.YtoegenacjhmicaaCountH
namespace Go.Proofs.Ytoegenacjhmicaa
open Go.RowKit HP NP
/-- a row of the call's own, sorted -/
theorem sort6_ok (w : World) (B cap : Nat) (a : Option Addr) (zs : List Int) (n : Nat) (hn : zs.length = n) (hlen : n ≤ 1048576) (h : w.ownsRow B 3 1 (.slice a n cap) n (zV zs)) (hB : B ≤ w.heap.size) :
    Calls Try.prog 64 #[.slice a n cap] w fun e w' => e = .returned (.tuple #[]) ∧ w'.ownsRow B 3 1 (.slice a n cap) n (zV (srt zs)) ∧ Below B w w' := by
  subst hn
  rcases h.2 with ⟨h0, h1⟩ | ⟨gb, cap', cur, hv, hbase, hgb, r1, r2, r3, r4⟩
  · injection h0 with ha hl hc
    have hz : zs = [] := List.length_eq_zero_iff.1 hl
    subst hz
    refine (Try.slices_Sort_int_none a cap w).mono ?_
    rintro e w' ⟨rfl, rfl⟩
    refine ⟨rfl, ?_, Below.refl _ _⟩
    rw [show srt [] = [] from by unfold srt; simp]
    exact h
  · injection hv with hv1 _ hv3
    subst hv1 hv3
    have hH : Go.Sort.Holds (Value.int .i64) w gb 0 zs.toArray := holds_of_block_i hgb (by rw [Nat.mul_one] at r4; simpa [zV] using r4)
    refine (Try.slices_Sort_int gb 0 cap zs w hH (Array.getElem?_eq_some_iff.1 hgb).1 (by omega)).mono ?_
    rintro e w' ⟨rfl, nn, os, rfl⟩
    refine ⟨rfl, ownsRow_sorted_i (by simp) hbase hgb r1 r2 r3, (Below.refl _ _).grown (grownBy_sorted_i _) hB (fun j hj => by cases hj; exact hbase)⟩
/-! ### numbers -/
theorem or_pow6 {m i : Nat} (hm : m < 2 ^ i) (hi : i ≤ 30) : bits .or .i64 (m : Int) ((2 ^ i : Nat) : Int) = ((m + 2 ^ i : Nat) : Int) := by
  have hp : 2 ^ i ≤ 2 ^ 30 := Nat.pow_le_pow_right (by decide) hi
  have h := Nat.two_pow_add_eq_or_of_lt hm 1
  rw [Nat.mul_one] at h
  show IntKind.i64.wrap ((BitVec.ofInt 64 (m : Int) ||| BitVec.ofInt 64 ((2 ^ i : Nat) : Int)).toNat : Int) = _
  rw [BitVec.toNat_or, BitVec.ofInt_natCast, BitVec.ofInt_natCast, BitVec.toNat_ofNat, BitVec.toNat_ofNat, Nat.mod_eq_of_lt (a := m) (by omega), Nat.mod_eq_of_lt (a := 2 ^ i) (by omega), Nat.or_comm, ← h, Nat.add_comm, IntKind.wrap_i64]
  omega
theorem shl6 {i : Nat} (hi : i ≤ 30) : wrap64 ((2 : Int) ^ i) = ((2 ^ i : Nat) : Int) := by
  have hp : 2 ^ i ≤ 2 ^ 30 := Nat.pow_le_pow_right (by decide) hi
  have e : ((2 : Int) ^ i) = ((2 ^ i : Nat) : Int) := by simp
  rw [e]
  obtain ⟨pv, hpv⟩ : ∃ pv, 2 ^ i = pv := ⟨_, rfl⟩
  rw [hpv] at hp ⊢
  have h30 : (2 : Nat) ^ 30 = 1073741824 := by decide
  rw [h30] at hp
  exact w64 _ (by omega) (by omega)
theorem expS_app (x : Int) (i : Nat) (l m : List Nat) : expS x i (l ++ m) = expS x i l ++ expS x i m := List.flatMap_append
theorem expS_take {x : Int} {i : Nat} {all : List Nat} {q m : Nat} (h : all[q]? = some m) : expS x i (all.take (q + 1)) = expS x i (all.take q) ++ ((if x ≠ 1 then [m] else []) ++ (if x ≠ 0 then [m + 2 ^ i] else [])) := by
  rw [List.take_add_one, h, expS_app]
  show _ ++ expS x i [m] = _
  unfold expS
  simp
theorem expF_take {c : List Int} {vs : List Nat} {j v : Nat} (h : vs[j]? = some v) (all : List Nat) : expF c (vs.take (j + 1)) 0 all = expS (c.getD v 0) j (expF c (vs.take j) 0 all) := by
  have hj := (List.getElem?_eq_some_iff.1 h).1
  rw [List.take_add_one, h]
  show expF c (vs.take j ++ [v]) 0 all = _
  rw [expF_snoc, List.length_take, Nat.min_eq_left (by omega), Nat.zero_add]
theorem expF_lt (c : List Int) (vs : List Nat) : ∀ m ∈ expF c vs 0 [0], m < 2 ^ vs.length := by
  have key : ∀ (vs : List Nat) (i : Nat) (all : List Nat), (∀ m ∈ all, m < 2 ^ i) → ∀ m ∈ expF c vs i all, m < 2 ^ (i + vs.length) := by
    intro vs
    induction vs with
    | nil => intro i all h m hm; exact h m hm
    | cons v vs ih =>
      intro i all h m hm
      have := ih (i + 1) _ (expS_lt h) m hm
      rw [List.length_cons, show i + (vs.length + 1) = i + 1 + vs.length by omega]; exact this
  intro m hm
  have := key vs 0 [0] (by simp) m hm
  rw [Nat.zero_add] at this; exact this
theorem numsL_take {L : List (List Int)} {vs : List Nat} {i : Nat} {c : List Int} (h : L[i]? = some c) : numsL (L.take (i + 1)) vs = numsL (L.take i) vs ++ expF c vs 0 [0] := by
  unfold numsL
  rw [List.take_add_one, h, List.flatMap_append]
  simp
theorem numsL_lenle (vs : List Nat) (hv : vs.length ≤ 5) : ∀ L : List (List Int), (numsL L vs).length ≤ 32 * L.length := by
  intro L
  induction L with
  | nil => simp [numsL]
  | cons c L ih =>
    have h := expF_len c vs 0 [0]
    have hp : 2 ^ vs.length ≤ 2 ^ 5 := Nat.pow_le_pow_right (by decide) hv
    have e : numsL (c :: L) vs = expF c vs 0 [0] ++ numsL L vs := by unfold numsL; simp
    rw [e, List.length_append, List.length_cons]
    simp only [List.length_singleton, Nat.mul_one] at h
    omega
theorem iV_lit (w : World) (t : TypeId) : Cells (w.alloc (.cells #[.int .i64 0] t)) (some ⟨w.heap.size, 0, none⟩) (iV [0]) := Cells.lit w #[.int .i64 0] t
theorem own_iV {w : World} {B n cap : Nat} {a : Option Addr} {l : List Nat} (h : w.ownsRow B 3 1 (.slice a n cap) n (iV l)) : Cells w a (iV l) := by
  obtain ⟨oa, oc, e, _, _, hc⟩ := Cells.of_own h
  injection e with e1 e2 e3
  subst e1
  exact hc
theorem iV_at {l : List Nat} {q m : Nat} (h : l[q]? = some m) : (iV l)[q]? = some (.int .i64 (m : Int)) := by unfold iV; rw [List.getElem?_map, h]; rfl
theorem iV_ones (l : List Nat) : ∀ u ∈ iV l, u.oneCell' = true := fun u hu => by
  unfold iV at hu
  obtain ⟨k, _, rfl⟩ := List.mem_map.1 hu; rfl
theorem iV_nZ (l : List Nat) : iV l = zV (nZ l) := iV_z l
/-- a row of cubes: its cells -/
theorem RowsO.at_ {w : World} {B : Nat} {a : Option Addr} {c0 n : Nat} {sls : List Value} {L : List (List Int)} (h : RowsO w B (.slice a n c0) sls L) (hn : L.length = n) {i : Nat} {l : List Int} (hl : L[i]? = some l) :
    ∃ b off ad cap, a = some ⟨b, off, none⟩ ∧ b < w.heap.size ∧ w.cell? ⟨b, off + i, none⟩ = some (.slice ad l.length cap) ∧ Cells w ad (zV l) := by
  subst hn
  obtain ⟨u, h1, h2⟩ := h.ins i l hl
  obtain ⟨oa, oc, e, _, _, hc⟩ := Cells.of_own h.ow
  injection e with e1 e2 e3
  subst e1
  obtain ⟨b, off, e, hb, hcell⟩ := hc.at_ h1
  obtain ⟨ad, cap, rfl, _, _, hd⟩ := Cells.of_own h2
  exact ⟨b, off, ad, cap, e, hb, hcell, hd⟩
theorem RowsO.below {w w' : World} {B : Nat} {y : Value} {sls : List Value} {L : List (List Int)} (h : RowsO w B y sls L) (hb : Below w.heap.size w w') : RowsO w' B y sls L :=
  ⟨own_below h.ow hb, fun i l hl => by
    obtain ⟨u, h1, h2⟩ := h.ins i l hl
    exact ⟨u, h1, own_below h2 hb⟩⟩
end Go.Proofs.Ytoegenacjhmicaa

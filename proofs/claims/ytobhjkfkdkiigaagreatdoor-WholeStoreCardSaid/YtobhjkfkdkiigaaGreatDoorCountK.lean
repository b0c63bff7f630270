/- Layer 6: what the walk of count.Each asks for: one number more, a sorted row, one row of a cube. 
 Layer 6: the contract of count.Each. -/
import Derived.Test.YtobhjkfkdkiigaaGreatDoorCountF
import Derived.Test.YtobhjkfkdkiigaaGreatDoorCountH
namespace Go.Proofs.YtobhjkfkdkiigaaGreatDoor
open Go.RowKit HP NP
/-- a row of the call's own, sorted -/
theorem sort6_ok (w : World) (B cap : Nat) (a : Option Addr) (zs : List Int) (n : Nat) (hn : zs.length = n) (hlen : n ≤ 1048576) (h : w.ownsRow B 3 1 (.slice a n cap) n (zV zs)) (hB : B ≤ w.heap.size) :
    Calls Tryz.prog 59 #[.slice a n cap] w fun e w' => e = .returned (.tuple #[]) ∧ w'.ownsRow B 3 1 (.slice a n cap) n (zV (srt zs)) ∧ Below B w w' := by
  subst hn
  rcases h.2 with ⟨h0, h1⟩ | ⟨gb, cap', cur, hv, hbase, hgb, r1, r2, r3, r4⟩
  · injection h0 with ha hl hc
    have hz : zs = [] := List.length_eq_zero_iff.1 hl
    subst hz
    refine (Tryz.slices_Sort_int_none a cap w).mono ?_
    rintro e w' ⟨rfl, rfl⟩
    refine ⟨rfl, ?_, Below.refl _ _⟩
    rw [show srt [] = [] from by unfold srt; simp]
    exact h
  · injection hv with hv1 _ hv3
    subst hv1 hv3
    have hH : Go.Sort.Holds (Value.int .i64) w gb 0 zs.toArray := holds_of_block_i hgb (by rw [Nat.mul_one] at r4; simpa [zV] using r4)
    refine (Tryz.slices_Sort_int gb 0 cap zs w hH (Array.getElem?_eq_some_iff.1 hgb).1 (by omega)).mono ?_
    rintro e w' ⟨rfl, nn, os, rfl⟩
    refine ⟨rfl, ownsRow_sorted_i (by simp) hbase hgb r1 r2 r3, (Below.refl _ _).grown (grownBy_sorted_i _) hB (fun j hj => by cases hj; exact hbase)⟩
/-! ### numbers -/
theorem or_pow6 {m i : Nat} (hm : m < 2 ^ i) (hi : i ≤ 30) : bits .or .i64 (m : Int) ((2 ^ i : Nat) : Int) = ((m + 2 ^ i : Nat) : Int) := by
  have hp : 2 ^ i ≤ 2 ^ 30 := Nat.pow_le_pow_right (by decide) hi
  have h := Nat.two_pow_add_eq_or_of_lt hm 1
  rw [Nat.mul_one] at h
  show IntKind.i64.wrap ((BitVec.ofInt 64 (m : Int) ||| BitVec.ofInt 64 ((2 ^ i : Nat) : Int)).toNat : Int) = _
  rw [BitVec.toNat_or, BitVec.ofInt_natCast, BitVec.ofInt_natCast, BitVec.toNat_ofNat, BitVec.toNat_ofNat, Nat.mod_eq_of_lt (a := m) (by omega), Nat.mod_eq_of_lt (a := 2 ^ i) (by omega), Nat.or_comm, ← h, Nat.add_comm, IntKind.wrap_i64]
  omega
theorem shl6 {i : Nat} (hi : i ≤ 30) : wrap64 ((2 : Int) ^ i) = ((2 ^ i : Nat) : Int) := by
  have hp : 2 ^ i ≤ 2 ^ 30 := Nat.pow_le_pow_right (by decide) hi
  have e : ((2 : Int) ^ i) = ((2 ^ i : Nat) : Int) := by simp
  rw [e]
  obtain ⟨pv, hpv⟩ : ∃ pv, 2 ^ i = pv := ⟨_, rfl⟩
  rw [hpv] at hp ⊢
  have h30 : (2 : Nat) ^ 30 = 1073741824 := by decide
  rw [h30] at hp
  exact w64 _ (by omega) (by omega)
theorem expS_app (x : Int) (i : Nat) (l m : List Nat) : expS x i (l ++ m) = expS x i l ++ expS x i m := List.flatMap_append
theorem expS_take {x : Int} {i : Nat} {all : List Nat} {q m : Nat} (h : all[q]? = some m) : expS x i (all.take (q + 1)) = expS x i (all.take q) ++ ((if x ≠ 1 then [m] else []) ++ (if x ≠ 0 then [m + 2 ^ i] else [])) := by
  rw [List.take_add_one, h, expS_app]
  show _ ++ expS x i [m] = _
  unfold expS
  simp
theorem expF_take {c : List Int} {vs : List Nat} {j v : Nat} (h : vs[j]? = some v) (all : List Nat) : expF c (vs.take (j + 1)) 0 all = expS (c.getD v 0) j (expF c (vs.take j) 0 all) := by
  have hj := (List.getElem?_eq_some_iff.1 h).1
  rw [List.take_add_one, h]
  show expF c (vs.take j ++ [v]) 0 all = _
  rw [expF_snoc, List.length_take, Nat.min_eq_left (by omega), Nat.zero_add]
theorem expF_lt (c : List Int) (vs : List Nat) : ∀ m ∈ expF c vs 0 [0], m < 2 ^ vs.length := by
  have key : ∀ (vs : List Nat) (i : Nat) (all : List Nat), (∀ m ∈ all, m < 2 ^ i) → ∀ m ∈ expF c vs i all, m < 2 ^ (i + vs.length) := by
    intro vs
    induction vs with
    | nil => intro i all h m hm; exact h m hm
    | cons v vs ih =>
      intro i all h m hm
      have := ih (i + 1) _ (expS_lt h) m hm
      rw [List.length_cons, show i + (vs.length + 1) = i + 1 + vs.length by omega]; exact this
  intro m hm
  have := key vs 0 [0] (by simp) m hm
  rw [Nat.zero_add] at this; exact this
theorem numsL_take {L : List (List Int)} {vs : List Nat} {i : Nat} {c : List Int} (h : L[i]? = some c) : numsL (L.take (i + 1)) vs = numsL (L.take i) vs ++ expF c vs 0 [0] := by
  unfold numsL
  rw [List.take_add_one, h, List.flatMap_append]
  simp
theorem numsL_lenle (vs : List Nat) (hv : vs.length ≤ 5) : ∀ L : List (List Int), (numsL L vs).length ≤ 32 * L.length := by
  intro L
  induction L with
  | nil => simp [numsL]
  | cons c L ih =>
    have h := expF_len c vs 0 [0]
    have hp : 2 ^ vs.length ≤ 2 ^ 5 := Nat.pow_le_pow_right (by decide) hv
    have e : numsL (c :: L) vs = expF c vs 0 [0] ++ numsL L vs := by unfold numsL; simp
    rw [e, List.length_append, List.length_cons]
    simp only [List.length_singleton, Nat.mul_one] at h
    omega
theorem iV_lit (w : World) (t : TypeId) : Cells (w.alloc (.cells #[.int .i64 0] t)) (some ⟨w.heap.size, 0, none⟩) (iV [0]) := Cells.lit w #[.int .i64 0] t
theorem own_iV {w : World} {B n cap : Nat} {a : Option Addr} {l : List Nat} (h : w.ownsRow B 3 1 (.slice a n cap) n (iV l)) : Cells w a (iV l) := by
  obtain ⟨oa, oc, e, _, _, hc⟩ := Cells.of_own h
  injection e with e1 e2 e3
  subst e1
  exact hc
theorem iV_at {l : List Nat} {q m : Nat} (h : l[q]? = some m) : (iV l)[q]? = some (.int .i64 (m : Int)) := by unfold iV; rw [List.getElem?_map, h]; rfl
theorem iV_ones (l : List Nat) : ∀ u ∈ iV l, u.oneCell' = true := fun u hu => by
  unfold iV at hu
  obtain ⟨k, _, rfl⟩ := List.mem_map.1 hu; rfl
theorem iV_nZ (l : List Nat) : iV l = zV (nZ l) := iV_z l
/-- a row of cubes: its cells -/
theorem RowsO.at_ {w : World} {B : Nat} {a : Option Addr} {c0 n : Nat} {sls : List Value} {L : List (List Int)} (h : RowsO w B (.slice a n c0) sls L) (hn : L.length = n) {i : Nat} {l : List Int} (hl : L[i]? = some l) :
    ∃ b off ad cap, a = some ⟨b, off, none⟩ ∧ b < w.heap.size ∧ w.cell? ⟨b, off + i, none⟩ = some (.slice ad l.length cap) ∧ Cells w ad (zV l) := by
  subst hn
  obtain ⟨u, h1, h2⟩ := h.ins i l hl
  obtain ⟨oa, oc, e, _, _, hc⟩ := Cells.of_own h.ow
  injection e with e1 e2 e3
  subst e1
  obtain ⟨b, off, e, hb, hcell⟩ := hc.at_ h1
  obtain ⟨ad, cap, rfl, _, _, hd⟩ := Cells.of_own h2
  exact ⟨b, off, ad, cap, e, hb, hcell, hd⟩
theorem RowsO.below {w w' : World} {B : Nat} {y : Value} {sls : List Value} {L : List (List Int)} (h : RowsO w B y sls L) (hb : Below w.heap.size w w') : RowsO w' B y sls L :=
  ⟨own_below h.ow hb, fun i l hl => by
    obtain ⟨u, h1, h2⟩ := h.ins i l hl
    exact ⟨u, h1, own_below h2 hb⟩⟩
end Go.Proofs.YtobhjkfkdkiigaaGreatDoor

namespace Go.Proofs.YtobhjkfkdkiigaaGreatDoor
open Go.RowKit HP NP
def eachBad (most : Int) (n : Nat) : Prop := most < 0 ∨ 16384 < most ∨ 62 < n
/-- the numbers that Each gives -/
def eachL (S : NS) (k : Int) (zs : List Int) : List Int := srt (nZ (numsL (cubes S k.toNat) (toNs zs)))
def EachPost (S : NS) (k : Int) (zs : List Int) (most : Int) (w : World) (e : Ending) (w' : World) : Prop :=
  Below w.heap.size w w' ∧ ((eachBad most zs.length ∧ e = .returned (.tuple #[.slice none 0 0, .int .i64 1])) ∨
    (¬ eachBad most zs.length ∧ withE S k zs ≠ 0 ∧ e = .returned (.tuple #[.slice none 0 0, .int .i64 (withE S k zs)])) ∨
    (¬ eachBad most zs.length ∧ withE S k zs = 0 ∧ ∃ m, PosOf (srt zs) m ∧
      ((most < satT m zs.length S k.toNat ∧ e = .returned (.tuple #[.slice none 0 0, .int .i64 2])) ∨
       (satT m zs.length S k.toNat ≤ most ∧ cubE S k 16384 ≠ 0 ∧ e = .returned (.tuple #[.slice none 0 0, .int .i64 (cubE S k 16384)])) ∨
       (satT m zs.length S k.toNat ≤ most ∧ cubE S k 16384 = 0 ∧ ∃ y, e = .returned (.tuple #[y, .int .i64 0]) ∧ w'.ownsRow w.heap.size 3 1 y (eachL S k zs).length (zV (eachL S k zs))))))
theorem cubE_zero {S : NS} {k : Int} (h : cubE S k 16384 = 0) : isK S.l k = true ∧ (cubes S k.toNat).length ≤ 16384 := by
  unfold cubE at h
  split at h
  · cases h
  · split at h
    · cases h
    · rename_i h2
      split at h
      · cases h
      · rename_i h3
        refine ⟨?_, by omega⟩
        cases hk : isK S.l k with
        | true => rfl
        | false => exact absurd hk h2
/-- one value of a cube more -/
theorem exp_step {x : Int} {j : Nat} {AL : List Nat} {q m : Nat} (h : AL[q]? = some m) {B : Nat} {w : World} {u : Value} {L : List Nat} (hL : L = (if x ≠ 1 then [m] else []) ++ (if x ≠ 0 then [m + 2 ^ j] else []))
    (hown : w.ownsRow B 3 1 u ((expS x j (AL.take q)).length + L.length) (iV (expS x j (AL.take q)) ++ iV L)) : w.ownsRow B 3 1 u (expS x j (AL.take (q + 1))).length (iV (expS x j (AL.take (q + 1)))) := by
  rw [expS_take h, ← hL, List.length_append, iV_app]
  exact hown
set_option maxRecDepth 100000 in
set_option maxHeartbeats 16000000 in
theorem each_ok (w : World) (B p : Nat) (S : NS) (h : Sto w B p S) (hv1 : 1 ≤ S.vars) (k : Int) (a : Option Addr) (zs : List Int) (c : Nat) (hl : zs.length ≤ 1000) (hc : Cells w a (zV zs)) (hwf : ∀ z ∈ zs, (Lit.int .i64 z).wf = true) (most : Int)
    (hq : ∀ m, PosOf (srt zs) m → satT m zs.length S k.toNat ≤ most → zs.length ≤ 5) :
    Calls Tryz.prog 75 #[.pointer (some ⟨p, 0, none⟩), .int .i64 k, .slice a zs.length c, .int .i64 most] w (EachPost S k zs most w) := by
  have HS := Lib.hid h; have HC := Lib.hid hc
  have HSAT := Lib.hid (csat_ok w B p S h k a zs c hl hc hwf)
  have HQ := Lib.hid hq
  obtain ⟨N, hN⟩ : ∃ N, zs.length = N := ⟨_, rfl⟩
  rw [hN] at HSAT hl ⊢
  have HN := Lib.hid hN
  clear h hc hwf hq hN
  by_cases h1 : most < 0
  · have d1 : decide (most < 0) = true := decide_eq_true h1
    have HB : Hid (eachBad most zs.length) := Lib.hid (.inl h1)
    clear h1
    go_enter Tryz.func75, Tryz.ntmps75
    go_wp2_with fail
    go_ret2
    exact ⟨Below.refl _ _, .inl ⟨HB.out, rfl⟩⟩
  have d1 : decide (most < 0) = false := decide_eq_false h1
  by_cases h2 : 16384 < most
  · have d2 : decide (16384 < most) = true := decide_eq_true h2
    have HB : Hid (eachBad most zs.length) := Lib.hid (.inr (.inl h2))
    clear h1 h2
    go_enter Tryz.func75, Tryz.ntmps75
    go_wp2_with fail
    go_ret2
    exact ⟨Below.refl _ _, .inl ⟨HB.out, rfl⟩⟩
  have d2 : decide (16384 < most) = false := decide_eq_false h2
  by_cases h3 : 62 < N
  · have d3 : decide ((62 : Int) < (N : Int)) = true := decide_eq_true (by omega)
    have d3' : decide (62 < N) = true := decide_eq_true h3
    have HB : Hid (eachBad most zs.length) := Lib.hid (.inr (.inr (by rw [HN.out]; exact h3)))
    clear h1 h2 h3
    go_enter Tryz.func75, Tryz.ntmps75
    go_wp2_with fail
    go_ret2
    exact ⟨Below.refl _ _, .inl ⟨HB.out, rfl⟩⟩
  have d3 : decide ((62 : Int) < (N : Int)) = false := decide_eq_false (by omega)
  have d3' : decide (62 < N) = false := decide_eq_false h3
  have HNB : Hid (¬ eachBad most zs.length) := Lib.hid (by unfold eachBad; rw [HN.out]; omega)
  clear h1 h2
  go_enter Tryz.func75, Tryz.ntmps75
  go_wp2_with fail
  refine HSAT.out.mono ?_
  rintro e w2 ⟨hb2, h | h⟩
  · obtain ⟨hne, rfl⟩ := h
    have HB2 := Lib.hid hb2
    obtain ⟨er, her⟩ : ∃ er, withE S k zs = er := ⟨_, rfl⟩
    rw [her] at hne ⊢
    have e1 : (er != 0) = true := by rw [bne_iff_ne]; exact hne
    have HER := Lib.hid her; have HNE := Lib.hid hne
    clear hb2 her hne
    go_wp2_with fail
    go_ret2
    exact ⟨HB2.out, .inr (.inl ⟨HNB.out, by rw [HER.out]; exact HNE.out, by rw [HER.out]; rfl⟩)⟩
  obtain ⟨hz, m, hpos, rfl⟩ := h
  have HB2 := Lib.hid hb2; have HZ := Lib.hid hz; have HPS := Lib.hid hpos
  have HS2 := Lib.hid (HS.out.below hb2); have HC2 := Lib.hid (HC.out.below hb2)
  obtain ⟨sn, hsn⟩ : ∃ sn, satT m zs.length S k.toNat = sn := ⟨_, rfl⟩
  have HSN := Lib.hid hsn
  have HQ2 := Lib.hid (HQ.out m hpos)
  rw [hsn] at HQ2 ⊢
  clear hb2 hz hpos hsn
  by_cases h4 : most < sn
  · have e4 : decide (most < sn) = true := decide_eq_true h4
    have H4 := Lib.hid h4
    clear h4
    go_wp2_with fail
    go_ret2
    exact ⟨HB2.out, .inr (.inr ⟨HNB.out, HZ.out, m, HPS.out, .inl ⟨by rw [HSN.out]; exact H4.out, rfl⟩⟩)⟩
  have e4 : decide (most < sn) = false := decide_eq_false h4
  have H4 : Hid (sn ≤ most) := Lib.hid (by omega)
  have HN5 : Hid (N ≤ 5) := Lib.hid (by rw [← HN.out]; exact HQ2.out H4.out)
  have HCU := Lib.hid (cubes_ok w2 B p S HS2.out hv1 k 16384)
  clear h4
  go_wp2_with fail
  refine HCU.out.mono ?_
  rintro e w3 ⟨hb3, h | h⟩
  · obtain ⟨hne, rfl⟩ := h
    have HB3 := Lib.hid (HB2.out.trans (hb3.mono HB2.out.size))
    obtain ⟨er, her⟩ : ∃ er, cubE S k 16384 = er := ⟨_, rfl⟩
    rw [her] at hne ⊢
    have e1 : (er != 0) = true := by rw [bne_iff_ne]; exact hne
    have HER := Lib.hid her; have HNE := Lib.hid hne
    clear hb3 her hne
    go_wp2_with fail
    go_ret2
    exact ⟨HB3.out, .inr (.inr ⟨HNB.out, HZ.out, m, HPS.out, .inr (.inl ⟨by rw [HSN.out]; exact H4.out, by rw [HER.out]; exact HNE.out, by rw [HER.out]; rfl⟩)⟩)⟩
  obtain ⟨hce, y, sls, rfl, hrows⟩ := h
  have HB3 := Lib.hid (HB2.out.trans (hb3.mono HB2.out.size))
  have HC3 := Lib.hid (HC2.out.below hb3)
  have HCE := Lib.hid hce; have HRW := Lib.hid hrows
  obtain ⟨hk, hlen⟩ := cubE_zero hce
  obtain ⟨hok, _, _⟩ := withE_zero HZ.out
  obtain ⟨kn, rfl, hkb⟩ := isK_out hk
  rw [Int.toNat_natCast] at hlen hrows
  obtain ⟨L, hL⟩ : ∃ L, cubes S kn = L := ⟨_, rfl⟩
  obtain ⟨vs, hvs⟩ : ∃ vs, toNs zs = vs := ⟨_, rfl⟩
  have hlenV : ∀ c ∈ L, c.length = S.vars := by rw [← hL]; exact cubes_len HS.out.wf hkb
  have hval : ∀ c ∈ L, ∀ v, c.getD v 0 = 0 ∨ c.getD v 0 = 1 ∨ c.getD v 0 = 2 := by rw [← hL]; exact cubes_getD HS.out.wf hkb
  rw [hL] at hlen hrows
  obtain ⟨R, hR⟩ : ∃ R, L.length = R := ⟨_, rfl⟩
  rw [hR] at hlen
  obtain ⟨ya, yc, rfl⟩ := own_shape hrows.ow
  rw [hR] at hrows ⊢
  obtain ⟨V, hV⟩ : ∃ V, S.vars = V := ⟨_, rfl⟩
  rw [hV] at hlenV hv1
  have hvsz : ∀ j v : Nat, vs[j]? = some v → zs[j]? = some (v : Int) ∧ v < V := fun j v hj => by
    rw [← hvs] at hj
    unfold toNs at hj
    rw [List.getElem?_map] at hj
    cases hz : zs[j]? with
    | none => rw [hz] at hj; cases hj
    | some z =>
      rw [hz] at hj
      injection hj with hj
      have hin := inV_iff.1 (hok.1 z (List.mem_of_getElem? hz))
      rw [hV] at hin
      exact ⟨by rw [← hj, Int.toNat_of_nonneg hin.1], by omega⟩
  have hvl : vs.length = N := by rw [← hvs, ← HN.out]; simp [toNs]
  have HVS := Lib.hid hvsz; have HVL := Lib.hid hvl; have HLV := Lib.hid hlenV; have HVAL := Lib.hid hval; have HL := Lib.hid hL; have HTN := Lib.hid hvs; have HR := Lib.hid hR
  have HRW := Lib.hid hrows
  have hv256 : V ≤ 256 := by rw [← hV]; exact HS.out.wf.v256
  have hn5 : N ≤ 5 := HN5.out
  obtain ⟨l0, hl0, lz0, lz1, lz2⟩ := info_parts int_info
  clear hb3 hce hrows hk hok hkb hL hvs hlenV hval hR hvsz hvl hV HCU HSAT
  go_wp2_with fail
  go_loopg [13, 59] R (fun mm u x wr => ∃ i : Nat, mm + i = R ∧ x = .int .i64 (i : Int) ∧ Below w3.heap.size w3 wr ∧ wr.ownsRow w3.heap.size 3 1 u (numsL (L.take i) vs).length (iV (numsL (L.take i) vs)))
  case atStart => exact ⟨0, by omega, rfl, Below.refl _ _, World.ownsRow_nil _ _ _ _⟩
  case round =>
    obtain ⟨wr1, hren⟩ : ∃ x, x = wr := ⟨_, rfl⟩
    subst hren
    obtain ⟨i, hm1, rfl, hb1, hr1⟩ := hrel
    have HM1 := Lib.hid hm1; have HB1 := Lib.hid hb1; have HR1 := Lib.hid hr1
    have hs1 := hb1.size
    clear hm1 hb1 hr1
    by_cases hi : i < R
    · obtain ⟨c, hcc⟩ : ∃ c, L[i]? = some c := ⟨_, List.getElem?_eq_getElem (by rw [HR.out]; exact hi)⟩
      obtain ⟨b7, o7, ad, cap, rfl, hb7, k7, hc7⟩ := (HRW.out.below HB1.out).at_ HR.out hcc
      have hcl := HLV.out c (List.mem_of_getElem? hcc)
      rw [hcl] at k7
      have HCL := Lib.hid hcl; have HCC := Lib.hid hcc; have HC7 := Lib.hid hc7
      have HV3 := Lib.hid (HVAL.out c (List.mem_of_getElem? hcc))
      clear hcc hcl hc7
      go_wp2_with fail
      obtain ⟨ga, hga⟩ : ∃ ga, ga = wr1.heap.size := ⟨_, rfl⟩
      obtain ⟨wa, hwa⟩ : ∃ wa, wa = wr1.alloc (.cells #[.int .i64 0] 3) := ⟨_, rfl⟩
      rw [← hga]
      rw [← hwa]
      have hba : Below wr1.heap.size wr1 wa := by rw [hwa]; exact (Below.refl _ _).alloc (Nat.le_refl _) _
      have hra : wa.ownsRow wr1.heap.size 3 1 (.slice (some ⟨ga, 0, none⟩) 1 1) 1 (iV [0]) := by
        have hbk : Blk wa ga 3 #[.int .i64 0] := by rw [hwa, hga]; exact Blk.new_ _ _ _
        exact hbk.own (size := 1) (n := 1) (cap := 1) (by omega) (Nat.le_refl _) (by unfold maxLen; omega) rfl
      have HBA := Lib.hid hba; have HRA := Lib.hid hra
      clear hga hwa hba hra k7
      go_loopg [16, 66] N (fun mm u x wr2 => ∃ j : Nat, mm + j = N ∧ x = .int .i64 (j : Int) ∧ Below wr1.heap.size wr1 wr2 ∧ wr2.ownsRow wr1.heap.size 3 1 u (expF c (vs.take j) 0 [0]).length (iV (expF c (vs.take j) 0 [0])))
      case atStart => exact ⟨0, by omega, rfl, HBA.out, HRA.out⟩
      case round =>
        obtain ⟨wr2, hren⟩ : ∃ x, x = wr := ⟨_, rfl⟩
        subst hren
        obtain ⟨j, hm2, rfl, hb2, hr2⟩ := hrel
        have HM2 := Lib.hid hm2; have HB2R := Lib.hid hb2
        have hs2 := hb2.size
        obtain ⟨ua, uc, rfl⟩ := own_shape hr2
        have HR2 := Lib.hid hr2
        clear hm2 hb2 hr2
        by_cases hj : j < N
        · obtain ⟨v, hvv⟩ : ∃ v, vs[j]? = some v := ⟨_, List.getElem?_eq_getElem (by rw [HVL.out]; exact hj)⟩
          obtain ⟨hzz, hvV⟩ := HVS.out j v hvv
          obtain ⟨bz, oz, rfl, hbz, kz⟩ := ((HC3.out.below HB1.out).below HB2R.out).at_ (zV_at hzz)
          obtain ⟨AL, hAL⟩ : ∃ AL, expF c (vs.take j) 0 [0] = AL := ⟨_, rfl⟩
          have hallt : ∀ m ∈ AL, m < 2 ^ j := fun m hm => by
            have := expF_lt c (vs.take j) m (by rw [hAL]; exact hm)
            rw [List.length_take, HVL.out, Nat.min_eq_left (by omega)] at this; exact this
          have hallen : AL.length ≤ 32 := by
            have h := expF_len c (vs.take j) 0 [0]
            have hp : 2 ^ (vs.take j).length ≤ 2 ^ 5 := Nat.pow_le_pow_right (by decide) (by rw [List.length_take]; omega)
            rw [hAL] at h
            simp only [List.length_singleton, Nat.mul_one] at h
            omega
          obtain ⟨M, hM⟩ : ∃ M, AL.length = M := ⟨_, rfl⟩
          rw [hAL] at HR2 ⊢
          rw [hM] at HR2 hallen ⊢
          obtain ⟨x, hx⟩ : ∃ x, c[v]? = some x := ⟨_, List.getElem?_eq_getElem (by rw [HCL.out]; exact hvV)⟩
          have hxd : c.getD v 0 = x := by rw [List.getD_eq_getElem?_getD, hx]; rfl
          have hx3 := HV3.out v
          rw [hxd] at hx3
          obtain ⟨br, bo, rfl, hbr, kr⟩ := (HC7.out.below HB2R.out).at_ (zV_at hx)
          have HNXT : Hid (expF c (vs.take (j + 1)) 0 [0] = expS x j AL) := Lib.hid (by rw [expF_take hvv, hxd, hAL])
          have HM := Lib.hid hM; have HALT := Lib.hid hallt; have HX3 := Lib.hid hx3; have HBR := Lib.hid hbr; have HKR := Lib.hid kr
          obtain ⟨pj, hpj⟩ : ∃ pj, 2 ^ j = pj := ⟨_, rfl⟩
          have HPJ := Lib.hid hpj
          have e1 : wrap64 ((2 : Int) ^ j) = (pj : Int) := by rw [← hpj]; exact shl6 (by omega)
          clear hvv hzz hAL hallt hM hx hxd hx3 kr hpj hbr
          go_wp2_with fail
          go_loopg [19, 73] M (fun mm u x3 wr3 => ∃ q : Nat, mm + q = M ∧ x3 = .int .i64 (q : Int) ∧ Below wr2.heap.size wr2 wr3 ∧ wr3.ownsRow wr2.heap.size 3 1 u (expS x j (AL.take q)).length (iV (expS x j (AL.take q))))
          case atStart => exact ⟨0, by omega, rfl, Below.refl _ _, World.ownsRow_nil _ _ _ _⟩
          case round =>
            obtain ⟨wr3, hren⟩ : ∃ x, x = wr := ⟨_, rfl⟩
            subst hren
            obtain ⟨q, hm3, rfl, hb3, hr3⟩ := hrel
            have HM3 := Lib.hid hm3; have HB3R := Lib.hid hb3
            have hs3 := hb3.size
            obtain ⟨T, hT⟩ : ∃ T, (expS x j (AL.take q)).length = T := ⟨_, rfl⟩
            have hT2 : T ≤ 64 := by
              have h := expS_len (x := x) (i := j) (all := AL.take q)
              rw [hT, List.length_take] at h
              omega
            rw [hT] at hr3
            have HT := Lib.hid hT; have HR3 := Lib.hid hr3
            clear hm3 hb3 hr3 hT kz
            by_cases hqm : q < M
            · obtain ⟨mm, hmq⟩ : ∃ mm, AL[q]? = some mm := ⟨_, List.getElem?_eq_getElem (by rw [HM.out]; exact hqm)⟩
              obtain ⟨pm, hpm⟩ : ∃ pm, mm + pj = pm := ⟨_, rfl⟩
              have or1 : bits .or .i64 (mm : Int) (pj : Int) = (pm : Int) := by
                rw [← hpm, ← HPJ.out]; exact or_pow6 (HALT.out mm (List.mem_of_getElem? hmq)) (by omega)
              obtain ⟨bq, oq, rfl, hbq, kq⟩ := (own_iV HR2.out).at_ (iV_at hmq)
              have kq2 := (HB3R.out.cell (p := ⟨bq, oq + q, none⟩) hbq).trans kq
              have k2 := (HB3R.out.cell (p := ⟨br, bo + v, none⟩) HBR.out).trans HKR.out
              have hbr2 := HBR.out
              have HMQ := Lib.hid hmq; have HPM := Lib.hid hpm
              clear hmq kq hpm
              rcases HX3.out with rfl | rfl | rfl
              · have e5 : (((0 : Int)) != 1) = true := by decide
                have e6 : (((0 : Int)) != 0) = false := by decide
                go_wp2_with (at_builtin; refine wpList_append_sep rfl (.tmp 82) (.tmp 84) 45 rfl wr2.heap.size 3 l0 (.int .i64 0) 1 8 Tryz.underlying45 hl0 lz0 lz1 lz2 rfl (by decide) u19 T _ rfl (HR3.out.alloc _) wr3.heap.size 0 1 1 [.int .i64 (mm : Int)] rfl rfl (lit_one _ _ _) (ones_int _) (by unfold maxLen; omega) (by omega) (by simp; omega) ?_)
                intro y4 w4 hown4 hg4 hsep4
                have HR4 := Lib.hid hown4
                have HB4 : Hid (Below wr2.heap.size wr2 w4) := Lib.hid ((HB3R.out.alloc HB3R.out.size (.cells #[.int .i64 (mm : Int)] 3)).grown hg4 (Nat.le_trans HB3R.out.size (Nat.le_of_lt (by simp))) (fun j hj => (HR3.out.lt j hj).1))
                have hs4 : wr2.heap.size ≤ w4.heap.size := HB4.out.size
                have k4 : w4.cell? ⟨br, bo + v, none⟩ = some (.int .i64 0) := (HB4.out.cell (p := ⟨br, bo + v, none⟩) hbr2).trans HKR.out
                clear hown4 hg4 hsep4
                go_wp2_with fail
                go_roundg (M - (q + 1))
                case measure => have := HM3.out; omega
                case rel =>
                  refine ⟨q + 1, by have := HM3.out; omega, by go_num, HB4.out, exp_step (L := [mm]) HMQ.out (by simp) ?_⟩
                  have h := HR4.out
                  rw [HT.out]
                  exact h
              · have e5 : (((1 : Int)) != 1) = false := by decide
                have e6 : (((1 : Int)) != 0) = true := by decide
                go_wp2_with (at_builtin; refine wpList_append_sep rfl (.tmp 91) (.tmp 96) 45 rfl wr2.heap.size 3 l0 (.int .i64 0) 1 8 Tryz.underlying45 hl0 lz0 lz1 lz2 rfl (by decide) u19 T _ rfl (HR3.out.alloc _) wr3.heap.size 0 1 1 [.int .i64 (pm : Int)] rfl rfl (lit_one _ _ _) (ones_int _) (by unfold maxLen; omega) (by omega) (by simp; omega) ?_)
                intro y5 w5 hown5 hg5 hsep5
                have HR5 := Lib.hid hown5
                have HB5 : Hid (Below wr2.heap.size wr2 w5) := Lib.hid ((HB3R.out.alloc HB3R.out.size (.cells #[.int .i64 (pm : Int)] 3)).grown hg5 (Nat.le_trans HB3R.out.size (Nat.le_of_lt (by simp))) (fun j hj => (HR3.out.lt j hj).1))
                clear hown5 hg5 hsep5
                go_wp2_with fail
                go_roundg (M - (q + 1))
                case measure => have := HM3.out; omega
                case rel =>
                  refine ⟨q + 1, by have := HM3.out; omega, by go_num, HB5.out, exp_step (L := [pm]) HMQ.out (by rw [← HPM.out, ← HPJ.out]; simp) ?_⟩
                  have h := HR5.out
                  rw [HT.out]
                  exact h
              · have e5 : (((2 : Int)) != 1) = true := by decide
                have e6 : (((2 : Int)) != 0) = true := by decide
                go_wp2_with (at_builtin; refine wpList_append_sep rfl (.tmp 82) (.tmp 84) 45 rfl wr2.heap.size 3 l0 (.int .i64 0) 1 8 Tryz.underlying45 hl0 lz0 lz1 lz2 rfl (by decide) u19 T _ rfl (HR3.out.alloc _) wr3.heap.size 0 1 1 [.int .i64 (mm : Int)] rfl rfl (lit_one _ _ _) (ones_int _) (by unfold maxLen; omega) (by omega) (by simp; omega) ?_)
                intro y4 w4 hown4 hg4 hsep4
                have HR4 := Lib.hid hown4
                have HB4 : Hid (Below wr2.heap.size wr2 w4) := Lib.hid ((HB3R.out.alloc HB3R.out.size (.cells #[.int .i64 (mm : Int)] 3)).grown hg4 (Nat.le_trans HB3R.out.size (Nat.le_of_lt (by simp))) (fun j hj => (HR3.out.lt j hj).1))
                have hs4 : wr2.heap.size ≤ w4.heap.size := HB4.out.size
                have k4 : w4.cell? ⟨br, bo + v, none⟩ = some (.int .i64 2) := (HB4.out.cell (p := ⟨br, bo + v, none⟩) hbr2).trans HKR.out
                clear hown4 hg4 hsep4
                go_wp2_with (at_builtin; refine wpList_append_sep rfl (.tmp 91) (.tmp 96) 45 rfl wr2.heap.size 3 l0 (.int .i64 0) 1 8 Tryz.underlying45 hl0 lz0 lz1 lz2 rfl (by decide) y4 (T + 1) _ rfl (HR4.out.alloc _) w4.heap.size 0 1 1 [.int .i64 (pm : Int)] rfl rfl (lit_one _ _ _) (ones_int _) (by unfold maxLen; omega) (by omega) (by simp; omega) ?_)
                intro y5 w5 hown5 hg5 hsep5
                have HR5 := Lib.hid hown5
                have HB5 : Hid (Below wr2.heap.size wr2 w5) := Lib.hid ((HB4.out.alloc HB4.out.size (.cells #[.int .i64 (pm : Int)] 3)).grown hg5 (Nat.le_trans HB4.out.size (Nat.le_of_lt (by simp))) (fun j hj => (HR4.out.lt j hj).1))
                clear hown5 hg5 hsep5
                go_wp2_with fail
                go_roundg (M - (q + 1))
                case measure => have := HM3.out; omega
                case rel =>
                  refine ⟨q + 1, by have := HM3.out; omega, by go_num, HB5.out, exp_step (L := [mm, pm]) HMQ.out (by rw [← HPM.out, ← HPJ.out]; simp) ?_⟩
                  have h := HR5.out
                  rw [HT.out]
                  exact h
            · have hqe : q = M := by have := HM3.out; omega
              subst hqe
              have hr := HR3.out
              rw [← HT.out, List.take_of_length_le (by rw [HM.out]; exact Nat.le_refl _), ← HNXT.out] at hr
              have HRE := Lib.hid (own_base hr hs2)
              have HBE := Lib.hid (HB2R.out.trans (HB3R.out.mono hs2))
              clear hr
              go_wp2_with fail
              go_roundg (N - (j + 1))
              case measure => have := HM2.out; omega
              case rel => exact ⟨j + 1, by have := HM2.out; omega, by go_num, HBE.out, HRE.out⟩
        · have hje : j = N := by have := HM2.out; omega
          subst hje
          have hr := HR2.out
          rw [List.take_of_length_le (by rw [HVL.out]; exact Nat.le_refl _)] at hr ⊢
          obtain ⟨AL, hAL⟩ : ∃ AL, expF c vs 0 [0] = AL := ⟨_, rfl⟩
          have hallen : AL.length ≤ 32 := by
            have h := expF_len c vs 0 [0]
            have hp : 2 ^ vs.length ≤ 2 ^ 5 := Nat.pow_le_pow_right (by decide) (by rw [HVL.out]; omega)
            rw [hAL] at h
            simp only [List.length_singleton, Nat.mul_one] at h
            omega
          have hout : (numsL (L.take i) vs).length ≤ 32 * 16384 := by
            have h := numsL_lenle vs (by rw [HVL.out]; omega) (L.take i)
            rw [List.length_take] at h
            omega
          obtain ⟨M, hM⟩ : ∃ M, AL.length = M := ⟨_, rfl⟩
          rw [hAL] at hr ⊢
          rw [hM] at hr hallen ⊢
          obtain ⟨T, hT⟩ : ∃ T, (numsL (L.take i) vs).length = T := ⟨_, rfl⟩
          have hr1 := own_below HR1.out HB2R.out
          rw [hT] at hr1 hout
          have HRA2 := Lib.hid hr; have HR1B := Lib.hid hr1
          have HMH : Hid ((iV AL).length = M * 1) := Lib.hid (by rw [iV_len, hM, Nat.mul_one])
          have HNL : Hid (numsL (L.take (i + 1)) vs = numsL (L.take i) vs ++ AL) := Lib.hid (by rw [numsL_take HCC.out, hAL])
          have HTT : Hid ((numsL (L.take i) vs).length = T ∧ AL.length = M) := Lib.hid ⟨hT, hM⟩
          have hs12 : w3.heap.size ≤ wr2.heap.size := Nat.le_trans hs1 hs2
          have HB12 : Hid (Below w3.heap.size w3 wr2) := Lib.hid (HB1.out.trans (HB2R.out.mono hs1))
          clear hr hr1 hAL hM hT
          go_wp2_with (at_builtin; refine wpList_append_src rfl (.tmp 101) (.tmp 102) 45 rfl w3.heap.size 3 l0 (.int .i64 0) 1 8 Tryz.underlying45 hl0 lz0 lz1 lz2 rfl (by decide) u13 T _ rfl HR1B.out ua M uc (iV AL) rfl HMH.out (own_iV HRA2.out) (iV_ones _) (by unfold maxLen; omega) (by omega) hs12 ?_)
          intro y4 w4 hown4 hg4 _
          have HR4 : Hid (w4.ownsRow w3.heap.size 3 1 y4 (numsL (L.take (i + 1)) vs).length (iV (numsL (L.take (i + 1)) vs))) := Lib.hid (by rw [HNL.out, List.length_append, HTT.out.1, HTT.out.2, iV_app]; exact hown4)
          have HB4 : Hid (Below w3.heap.size w3 w4) := Lib.hid (HB12.out.grown hg4 hs12 (fun j hj => (HR1B.out.lt j hj).1))
          clear hown4 hg4
          go_wp2_with fail
          go_roundg (R - (i + 1))
          case measure => have := HM1.out; omega
          case rel => exact ⟨i + 1, by have := HM1.out; omega, by go_num, HB4.out, HR4.out⟩
    · have hie : i = R := by have := HM1.out; omega
      subst hie
      have hr := HR1.out
      rw [List.take_of_length_le (by rw [HR.out]; exact Nat.le_refl _), iV_nZ] at hr
      obtain ⟨u1, uc1, rfl⟩ := own_shape hr
      have hout := numsL_lenle vs (by rw [HVL.out]; omega) L
      have hsrt : eachL S (kn : Int) zs = srt (nZ (numsL L vs)) := by unfold eachL; rw [Int.toNat_natCast, HL.out, HTN.out]
      have hnl : (nZ (numsL L vs)).length = (numsL L vs).length := by simp [nZ]
      obtain ⟨T, hT⟩ : ∃ T, (numsL L vs).length = T := ⟨_, rfl⟩
      rw [hT] at hr hout hnl ⊢
      have HSO := Lib.hid (sort6_ok wr1 w3.heap.size uc1 u1 (nZ (numsL L vs)) T hnl (by rw [HR.out] at hout; omega) hr hs1)
      have HSR : Hid (eachL S (kn : Int) zs = srt (nZ (numsL L vs)) ∧ (eachL S (kn : Int) zs).length = T) := Lib.hid ⟨hsrt, by rw [hsrt, srt_len, hnl]⟩
      clear hr hout hsrt hnl hT
      go_wp2_with fail
      refine HSO.out.mono ?_
      rintro e w5 ⟨rfl, hown5, hb5⟩
      have HR5 := Lib.hid (own_base hown5 HB3.out.size)
      have HB5 := Lib.hid (HB3.out.trans ((HB1.out.trans hb5).mono HB3.out.size))
      clear hown5 hb5
      go_wp2_with fail
      go_ret2
      exact ⟨HB5.out, .inr (.inr ⟨HNB.out, HZ.out, m, HPS.out, .inr (.inr ⟨by rw [HSN.out]; exact H4.out, HCE.out, _, rfl, by rw [HSR.out.2, HSR.out.1]; exact HR5.out⟩)⟩)⟩
end Go.Proofs.YtobhjkfkdkiigaaGreatDoor

/- HashTurns: the walk. -/
import Derived.Test.YtdalnhhenahcjaaHashT
import Derived.Deep.RegionHeld3
namespace Go.Proofs.Ytdalnhhenahcjaa
open Go.RowKit HP

theorem i64_and_bd (x : Int) (m : Nat) (hm : m < 9223372036854775808) : ∃ k : Nat, bits .and .i64 x (m : Int) = (k : Int) ∧ k ≤ m := by
  refine ⟨(BitVec.ofInt 64 x).toNat &&& m, ?_, Nat.and_le_right⟩
  show IntKind.i64.wrap ((BitVec.ofInt 64 x &&& BitVec.ofInt 64 (m : Int)).toNat : Int) = _
  rw [BitVec.toNat_and, BitVec.ofInt_natCast, BitVec.toNat_ofNat, Nat.mod_eq_of_lt (by omega)]
  have h : (BitVec.ofInt 64 x).toNat &&& m ≤ m := Nat.and_le_right
  rw [IntKind.wrap_i64]
  omega
/-- the cells of one key of a slice -/
theorem Cells.key {w : World} {a : Option Addr} {ks : List Key} (h : Cells w a (ks.flatMap keyCells)) {i : Nat} {c : Key} (hi : ks[i]? = some c) :
    ∃ b off, a = some ⟨b, off, none⟩ ∧ b < w.heap.size ∧ w.cell? ⟨b, off + i * 3, none⟩ = some (.int .i64 c.1) ∧ w.cell? ⟨b, off + i * 3 + 1, none⟩ = some (.int .i64 c.2.1) ∧ w.cell? ⟨b, off + i * 3 + 2, none⟩ = some (.int .i64 c.2.2) := by
  have h0 := flat_get keyCells 3 (fun _ => rfl) ks i 0 c _ hi rfl
  have h1 := flat_get keyCells 3 (fun _ => rfl) ks i 1 c _ hi rfl
  have h2 := flat_get keyCells 3 (fun _ => rfl) ks i 2 c _ hi rfl
  obtain ⟨b, off, e, hb, hh⟩ := h (by rintro e; rw [e] at h0; simp at h0)
  exact ⟨b, off, e, hb, by simpa using hh _ _ h0, by simpa [Nat.add_assoc] using hh _ _ h1, by simpa [Nat.add_assoc] using hh _ _ h2⟩
/-- the keys, turned -/
def rot (ks : List Key) (t i : Nat) : List Key := (List.range i).map fun j => ks.getD ((j + t) % ks.length) (0, 0, 0)
theorem rot_snoc (ks : List Key) (t i : Nat) : rot ks t (i + 1) = rot ks t i ++ [ks.getD ((i + t) % ks.length) (0, 0, 0)] := by simp [rot, List.range_succ]
theorem rot_all (ks : List Key) (t : Nat) (c : Key) : c ∈ rot ks t ks.length ↔ c ∈ ks := by
  unfold rot
  rw [List.mem_map]
  constructor
  · rintro ⟨j, hj, rfl⟩
    have hl : 0 < ks.length := by have := List.mem_range.1 hj; omega
    rw [List.getD_eq_getElem?_getD, List.getElem?_eq_getElem (Nat.mod_lt _ hl)]
    exact List.getElem_mem _
  · intro hc
    obtain ⟨i, hi, rfl⟩ := List.getElem_of_mem hc
    obtain ⟨d, hd, e⟩ := ring_onto (N := ks.length) (s := t) hi
    refine ⟨d, List.mem_range.2 hd, ?_⟩
    rw [Nat.add_comm, e, List.getD_eq_getElem?_getD, List.getElem?_eq_getElem hi]
    rfl
def fst3 (c : Key) : Int := c.1
def Turned (w w' : World) (p q : Nat) (A B : List Key) : Prop := ∃ n n', Tab2 w w' p q (putAll fst3 A) n (putAll fst3 B) n' ∧ Card (putAll fst3 A) n ∧ Card (putAll fst3 B) n' ∧ n ≤ A.length ∧ n' ≤ B.length

theorem turned_next (ks : List Key) (t i : Nat) (x y : Key) (hx : ks[i]? = some x) (hy : ks[(i + t) % ks.length]? = some y) (n n' : Nat) (w w' : World) (p q : Nat) (m m' : Nat) (hT : Tab2 w w' p q (setK (putAll fst3 (ks.take i)) x (some x.1)) m (setK (putAll fst3 (rot ks t i)) y (some y.1)) m')
    (hCa : Card (putAll fst3 (ks.take i)) n) (hCb : Card (putAll fst3 (rot ks t i)) n') (hna : n ≤ (ks.take i).length) (hnb : n' ≤ (rot ks t i).length)
    (hm : m = if (putAll fst3 (ks.take i) x).isSome then n else n + 1) (hm' : m' = if (putAll fst3 (rot ks t i) y).isSome then n' else n' + 1) : Turned w w' p q (ks.take (i + 1)) (rot ks t (i + 1)) := by
  have e1 : ks.take (i + 1) = ks.take i ++ [x] := by rw [List.take_add_one, hx]; rfl
  have e2 : rot ks t (i + 1) = rot ks t i ++ [y] := by rw [rot_snoc, List.getD_eq_getElem?_getD, hy]; rfl
  rw [e1, e2]
  refine ⟨m, m', by rw [putAll_snoc, putAll_snoc]; exact hT, by rw [putAll_snoc, hm]; exact hCa.put x _, by rw [putAll_snoc, hm']; exact hCb.put y _, ?_, ?_⟩
  · rw [List.length_append, hm]; simp only [List.length_singleton]; split <;> omega
  · rw [List.length_append, hm']; simp only [List.length_singleton]; split <;> omega

set_option maxRecDepth 100000 in
set_option maxHeartbeats 4000000 in
theorem hashTurns_walk (w : World) (a : Option Addr) (cap : Nat) (ks : List Key) (_hlc : ks.length ≤ cap) (_hm : cap ≤ maxLen) (hc : Cells w a (ks.flatMap keyCells)) (_wf : ∀ y ∈ ks, wfI y.1 ∧ wfI y.2.1 ∧ wfI y.2.2) (turn : Int) (_wt : (Lit.int .i64 turn).wf = true) :
    Calls Try.prog 3 #[.slice a ks.length cap, .int .i64 turn] w (Fine w) := by
  obtain ⟨t, ht0, ht2⟩ := i64_and_bd turn 255 (by decide)
  have ht : bits .and .i64 turn 255 = (t : Int) := ht0
  clear ht0
  have hml : ks.length ≤ 9223372036854775807 := by unfold maxLen at _hm; omega
  go_enter Try.func3, Try.ntmps3
  go_wp2_with fail
  refine (tnew w w (Below.refl _ _)).mono ?_
  rintro e w1 ⟨p, rfl, h1, _, _⟩
  go_wp2_with fail
  refine (t2new w w1 p _ _ h1).mono ?_
  rintro e w2 ⟨q, rfl, h2⟩
  by_cases h100 : ks.length ≤ 100
  · go_wp2_with fail
    go_loopg [8] ks.length (fun m x wr => ∃ i : Nat, m + i = ks.length ∧ x = .int .i64 (i : Int) ∧ Turned w wr p q (ks.take i) (rot ks t i))
    case atStart => exact ⟨0, rfl, rfl, 0, 0, h2, Card.nil, Card.nil, Nat.le_refl _, Nat.le_refl _⟩
    case round =>
      obtain ⟨i, hmi, rfl, hT⟩ := hrel
      have HMI := Lib.hid hmi; have HT := Lib.hid hT; clear hmi hT
      by_cases hlt : i < ks.length
      · obtain ⟨x, hx⟩ : ∃ x, ks[i]? = some x := ⟨ks[i], List.getElem?_eq_getElem hlt⟩
        have hyl : (i + t) % ks.length < ks.length := Nat.mod_lt _ (by omega)
        obtain ⟨y, hy⟩ : ∃ y, ks[(i + t) % ks.length]? = some y := ⟨ks[(i + t) % ks.length], List.getElem?_eq_getElem hyl⟩
        obtain ⟨n, n', hT, hCa, hCb, hna, hnb⟩ := HT.out
        have hbr := hT.bel
        obtain ⟨b, off, rfl, hb, k0, k1, k2⟩ := hc.key hx
        obtain ⟨b', off', e', _, j0, j1, j2⟩ := hc.key hy
        injection e' with e'; injection e' with e1 e2; subst e1 e2
        rw [← hbr.cell (p := ⟨_, _, none⟩) hb] at k0 k1 k2 j0 j1 j2
        have hHT := Lib.hid hT; clear hT
        have hm1 : ((i : Int) + (t : Int)) % (ks.length : Int) < (ks.length : Int) := Int.emod_lt_of_pos _ (by omega)
        have hm0 : 0 ≤ ((i : Int) + (t : Int)) % (ks.length : Int) := Int.emod_nonneg _ (by omega)
        go_wp2_with fail
        clear hm1 hm0
        have hBK : Blk (wr.alloc (.cells #[.int .i64 y.1, .int .i64 y.2.1, .int .i64 y.2.2] 26)) wr.heap.size 26 #[.int .i64 y.1, .int .i64 y.2.1, .int .i64 y.2.2] := Blk.new_ _ _ _
        have hbw : b < wr.heap.size := by have := hbr.size; omega
        generalize hR : wr.heap.size = rr at hBK hbw ⊢
        have hTA := hHT.out.below ((Below.refl wr.heap.size wr).alloc (Nat.le_refl _) (.cells #[.int .i64 y.1, .int .i64 y.2.1, .int .i64 y.2.2] 26))
        have a0 : (wr.alloc (.cells #[.int .i64 y.1, .int .i64 y.2.1, .int .i64 y.2.2] 26)).cell? ⟨b, off + i * 3, none⟩ = some (.int .i64 x.1) := by rw [World.cell?_alloc_past _ _ _ (by omega)]; exact k0
        have a1 : (wr.alloc (.cells #[.int .i64 y.1, .int .i64 y.2.1, .int .i64 y.2.2] 26)).cell? ⟨b, off + i * 3 + 1, none⟩ = some (.int .i64 x.2.1) := by rw [World.cell?_alloc_past _ _ _ (by omega)]; exact k1
        have a2 : (wr.alloc (.cells #[.int .i64 y.1, .int .i64 y.2.1, .int .i64 y.2.2] 26)).cell? ⟨b, off + i * 3 + 2, none⟩ = some (.int .i64 x.2.2) := by rw [World.cell?_alloc_past _ _ _ (by omega)]; exact k2
        clear hR k0 k1 k2 j0 j1 j2 hHT
        generalize wr.alloc (.cells #[.int .i64 y.1, .int .i64 y.2.1, .int .i64 y.2.2] 26) = wA at *
        have y0 := hBK.cell 0
        have y1 := hBK.cell 1
        have y2 := hBK.cell 2
        simp only [List.getElem?_toArray, List.getElem?_cons_zero, List.getElem?_cons_succ] at y0 y1 y2
        have HBK := Lib.hid hBK; have HTA := Lib.hid hTA; clear hBK hTA
        have HY := Lib.hid hy; have HX := Lib.hid hx; clear hy hx
        have hn1 : n < 1048576 := by have : (ks.take i).length ≤ ks.length := by rw [List.length_take]; omega
                                     omega
        have hn2 : n' < 1048576 := by have : (rot ks t i).length = i := by simp [rot]
                                      omega
        have HKP : Hid (∀ w', Below w.heap.size w w' → Blk w' rr 26 #[.int .i64 y.1, .int .i64 y.2.1, .int .i64 y.2.2] → w'.cell? ⟨b, off + i * 3, none⟩ = some (.int .i64 x.1) ∧ w'.cell? ⟨b, off + i * 3 + 1, none⟩ = some (.int .i64 x.2.1) ∧ w'.cell? ⟨b, off + i * 3 + 2, none⟩ = some (.int .i64 x.2.2) ∧ w'.cell? ⟨rr, 0, none⟩ = some (.int .i64 y.1) ∧ w'.cell? ⟨rr, 1, none⟩ = some (.int .i64 y.2.1) ∧ w'.cell? ⟨rr, 2, none⟩ = some (.int .i64 y.2.2)) := by
          intro w' hb' hk'
          obtain ⟨b2, off2, e', _, l0, l1, l2⟩ := hc.key HX.out
          injection e' with e'; injection e' with e1 e2; subst e1 e2
          exact ⟨(hb'.cell (p := ⟨_, _, none⟩) hb).trans l0, (hb'.cell (p := ⟨_, _, none⟩) hb).trans l1, (hb'.cell (p := ⟨_, _, none⟩) hb).trans l2, hk'.cell 0, hk'.cell 1, hk'.cell 2⟩
        clear a0 a1 a2 y0 y1 y2
        have HSD : Hid (∀ u v : World, Side u v → Blk u rr 26 #[.int .i64 y.1, .int .i64 y.2.1, .int .i64 y.2.2] → Blk v rr 26 #[.int .i64 y.1, .int .i64 y.2.1, .int .i64 y.2.2]) := fun u v h hb => h _ _ _ hb (by decide) (by decide)
        go_region_held3 (fun w' => w'.cell? ⟨b, off + i * 3, none⟩ = some (.int .i64 x.1) ∧ w'.cell? ⟨b, off + i * 3 + 1, none⟩ = some (.int .i64 x.2.1) ∧ w'.cell? ⟨b, off + i * 3 + 2, none⟩ = some (.int .i64 x.2.2) ∧ w'.cell? ⟨rr, 0, none⟩ = some (.int .i64 y.1) ∧ w'.cell? ⟨rr, 1, none⟩ = some (.int .i64 y.2.1) ∧ w'.cell? ⟨rr, 2, none⟩ = some (.int .i64 y.2.2))
          (first | with_reducible exact HKP.out _ hT4.bel (HSD.out _ _ hS4 (HSD.out _ _ hS3 HBK.out.drew_)) | with_reducible exact HKP.out _ hT3.bel (HSD.out _ _ hS3 HBK.out.drew_) | with_reducible exact HKP.out _ HTA.out.bel.drew HBK.out.drew_) (first | (go_at_call 17; ((with_reducible refine (t2put w _ p q _ n _ n' x x.1 (HTA.out.below ((Below.refl _ _).drew)) hn1).mono ?_); rintro e w3 ⟨rfl, hT3, hS3⟩)) | (go_at_call 17; ((with_reducible refine (t2putB w _ p q _ _ _ n' y y.1 hT3 hn2).mono ?_); rintro e w4 ⟨rfl, hT4, hS4⟩)))
        have hbel := hT4.bel
        have HT4 := Lib.hid hT4; clear hT4 hT3 hS3 hS4 hbel
        go_wp2_with fail
        go_roundg (ks.length - (i + 1))
        case measure => have := HMI.out; omega
        case rel => exact ⟨i + 1, by omega, by go_num, turned_next ks t i x y HX.out HY.out _ _ _ _ _ _ _ _ HT4.out hCa hCb hna hnb rfl rfl⟩
      · have hge : ks.length ≤ i := by omega
        have HI : Hid (i = ks.length) := by have := HMI.out; unfold Hid; omega
        obtain ⟨n, n', hT, hCa, hCb, _, _⟩ := HT.out
        rw [HI.out, List.take_length] at hT hCa
        rw [HI.out] at hCb
        have hnn : n = n' := hCa.one hCb fun c => by
          rw [Bool.eq_iff_iff, putAll_some, putAll_some, rot_all]
        have HN := Lib.hid hnn; clear hnn
        have HC := Lib.hid hT; clear hT
        go_wp2_with fail
        go_loopg [10] ks.length (fun m x wr => ∃ i : Nat, m + i = ks.length ∧ x = .int .i64 (i : Int) ∧ Tab2 w wr p q (putAll fst3 ks) n (putAll fst3 (rot ks t ks.length)) n')
        case atStart => exact ⟨0, rfl, rfl, HC.out⟩
        case round =>
          obtain ⟨k, hmk, rfl, hK⟩ := hrel
          have HMK := Lib.hid hmk; have HK := Lib.hid hK; clear hmk hK
          by_cases hlt : k < ks.length
          · obtain ⟨x, hx⟩ : ∃ x, ks[k]? = some x := ⟨ks[k], List.getElem?_eq_getElem hlt⟩
            obtain ⟨b, off, rfl, hb, k0, k1, k2⟩ := hc.key hx
            have hxm : x ∈ ks := List.mem_of_getElem? hx
            obtain ⟨g1, g2⟩ := putAll_get fst3 ks x hxm
            obtain ⟨g3, g4⟩ := putAll_get fst3 (rot ks t ks.length) x ((rot_all ks t x).2 hxm)
            have G1 := Lib.hid g1; have G2 := Lib.hid g2; have G3 := Lib.hid g3; have G4 := Lib.hid g4; have K0 := Lib.hid k0; have K1 := Lib.hid k1; have K2 := Lib.hid k2
            clear g1 g2 g3 g4 k0 k1 k2 hx hxm
            have c0 := (HK.out.bel.cell (p := ⟨_, _, none⟩) hb).trans K0.out
            have c1 := (HK.out.bel.cell (p := ⟨_, _, none⟩) hb).trans K1.out
            have c2 := (HK.out.bel.cell (p := ⟨_, _, none⟩) hb).trans K2.out
            go_wp2_with fail
            refine (t2get w _ p q _ _ _ _ x HK.out).mono ?_
            rintro e w3 ⟨rfl, hT3, _⟩
            rw [G1.out, G2.out]
            clear c0 c1 c2
            have c0 := (hT3.bel.cell (p := ⟨_, _, none⟩) hb).trans K0.out
            have c1 := (hT3.bel.cell (p := ⟨_, _, none⟩) hb).trans K1.out
            have c2 := (hT3.bel.cell (p := ⟨_, _, none⟩) hb).trans K2.out
            have HT3 := Lib.hid hT3; clear hT3
            go_wp2_with fail
            refine (t2getB w _ p q _ _ _ _ x HT3.out).mono ?_
            rintro e w4 ⟨rfl, hT4, _⟩
            rw [G3.out, G4.out]
            clear c0 c1 c2
            have c0 : w4.cell? _ = some (.int .i64 (fst3 x)) := (hT4.bel.cell (p := ⟨_, _, none⟩) hb).trans K0.out
            have HT4 := Lib.hid hT4; clear hT4
            go_wp2_with fail
            go_roundg (ks.length - (k + 1))
            case measure => have := HMK.out; omega
            case rel => exact ⟨k + 1, by omega, by go_num, HT4.out⟩
          · have hge2 : ks.length ≤ k := by omega
            go_wp2_with fail
            refine (t2len w _ p q _ _ _ _ HK.out).mono ?_
            rintro e w3 ⟨rfl, rfl⟩
            go_wp2_with fail
            refine (t2lenB w _ p q _ _ _ _ HK.out).mono ?_
            rintro e w3 ⟨rfl, rfl⟩
            rw [← HN.out]
            go_wp2_with fail
            refine (awake02 _).mono ?_
            rintro e w5 ⟨rfl, h5⟩
            go_wp2_with fail
            go_ret
            exact ⟨rfl, HK.out.bel.trans (h5.mono HK.out.bel.size)⟩
  · have h100' : (100 : Int) < (ks.length : Int) := by omega
    go_wp2_with fail
    refine (awake02 _).mono ?_
    rintro e w5 ⟨rfl, h5⟩
    go_wp2_with fail
    go_ret
    exact ⟨rfl, h2.bel.trans (h5.mono h2.bel.size)⟩
end Go.Proofs.Ytdalnhhenahcjaa

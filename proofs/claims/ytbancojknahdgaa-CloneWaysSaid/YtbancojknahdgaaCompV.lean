/- The reference of layer 19: may a graph be (May), and the marks of the nodes to which one comes. -/
import Derived.Test.YtbancojknahdgaaCompU
import Derived.Test.YtbancojknahdgaaCompF
import Derived.Test.YtbancojknahdgaaCompJ
namespace Go.Proofs.Ytbancojknahdgaa
open Go.RowKit CP
set_option maxRecDepth 100000 in
set_option maxHeartbeats 3200000 in
theorem rmay_ok (w : World) (n : Int) (ea : Option Addr) (es : List (Int × Int)) (c : Nat) (_hm : es.length ≤ maxLen) (hc : Cells w ea (es.flatMap pairCells)) :
    Calls Try.prog 53 #[.int .i64 n, .slice ea es.length c] w fun e w' => e = .returned (.bool (mayG n es)) ∧ w = w' := by
  obtain ⟨N, hN⟩ : ∃ N, es.length = N := ⟨_, rfl⟩
  have HN := Lib.hid hN; have HC := Lib.hid hc
  rw [hN] at _hm ⊢
  clear hN hc
  by_cases h1 : n < 0
  · have NO : Hid (mayG n es = false) := Lib.hid (by unfold mayG; simp; omega)
    go_enter Try.func53, Try.ntmps53
    go_wp2_with fail
    go_ret
    exact ⟨by rw [NO.out]; rfl, rfl⟩
  by_cases h2 : 1024 < n
  · have NO : Hid (mayG n es = false) := Lib.hid (by unfold mayG; simp; omega)
    go_enter Try.func53, Try.ntmps53
    go_wp2_with fail
    go_ret
    exact ⟨by rw [NO.out]; rfl, rfl⟩
  by_cases h3 : (16384 : Int) < (N : Int)
  · have NO : Hid (mayG n es = false) := Lib.hid (by unfold mayG; rw [HN.out]; simp; omega)
    go_enter Try.func53, Try.ntmps53
    go_wp2_with fail
    go_ret
    exact ⟨by rw [NO.out]; rfl, rfl⟩
  obtain ⟨k, rfl⟩ : ∃ k : Nat, n = (k : Int) := ⟨n.toNat, by omega⟩
  have HK : Hid (k ≤ 1024 ∧ N ≤ 16384) := Lib.hid (by omega)
  go_enter Try.func53, Try.ntmps53
  go_wp2_with fail
  go_loopg [5] N (fun m x wr => ∃ i : Nat, m + i = N ∧ x = .int .i64 (i : Int) ∧ (es.take i).all (edZ k) = true ∧ w = wr)
  case atStart => exact ⟨0, rfl, rfl, rfl, rfl⟩
  case round =>
    obtain ⟨i, hm2, rfl, hall, rfl⟩ := hrel
    have HM := Lib.hid hm2; have HALL := Lib.hid hall
    clear hm2 hall
    by_cases hi : i < N
    · obtain ⟨x, hx⟩ : ∃ x, es[i]? = some x := ⟨_, List.getElem?_eq_getElem (by rw [HN.out]; exact hi)⟩
      obtain ⟨b, off, hea, hbl, k0, k1⟩ := HC.out.pair hx
      subst hea
      obtain ⟨x0, x1⟩ := x
      have HX := Lib.hid hx
      clear hx
      simp only at k0 k1
      have hbd : edZ (k : Int) (x0, x1) = false → mayG (k : Int) es = false := fun h => by
        unfold mayG
        have : es.all (edZ (k : Int)) = false := by
          rw [List.all_eq_false]
          exact ⟨(x0, x1), List.mem_of_getElem? HX.out, by rw [h]; decide⟩
        rw [this, Bool.and_false]
      have HBD := Lib.hid hbd
      clear hbd
      by_cases hx0 : x0 < 0
      · have HE : Hid (edZ (k : Int) (x0, x1) = false) := Lib.hid (by unfold edZ; simp; omega)
        go_wp2_with fail
        go_ret
        exact ⟨by rw [HBD.out HE.out]; rfl, rfl⟩
      by_cases hx2 : (k : Int) ≤ x0
      · have HE : Hid (edZ (k : Int) (x0, x1) = false) := Lib.hid (by unfold edZ; simp; omega)
        go_wp2_with fail
        go_ret
        exact ⟨by rw [HBD.out HE.out]; rfl, rfl⟩
      by_cases hx1 : x1 < 0
      · have HE : Hid (edZ (k : Int) (x0, x1) = false) := Lib.hid (by unfold edZ; simp; omega)
        go_wp2_with fail
        go_ret
        exact ⟨by rw [HBD.out HE.out]; rfl, rfl⟩
      by_cases hx3 : (k : Int) ≤ x1
      · have HE : Hid (edZ (k : Int) (x0, x1) = false) := Lib.hid (by unfold edZ; simp; omega)
        go_wp2_with fail
        go_ret
        exact ⟨by rw [HBD.out HE.out]; rfl, rfl⟩
      have HE : Hid (edZ (k : Int) (x0, x1) = true) := Lib.hid (by unfold edZ; simp; omega)
      go_wp2_with fail
      go_roundg (N - (i + 1))
      case measure => have := HM.out; omega
      case rel => exact ⟨i + 1, by have := HM.out; omega, by go_num, by
        rw [List.take_add_one, HX.out, List.all_append, HALL.out]
        simp [HE.out], rfl⟩
    · have hiN : i = N := by have := HM.out; omega
      have YES : Hid (mayG (k : Int) es = true) := Lib.hid (by
        have h := HALL.out
        rw [List.take_of_length_le (by rw [HN.out]; omega)] at h
        unfold mayG
        rw [h, HN.out]
        have := HK.out
        simp; omega)
      go_wp2_with fail
      go_ret
      exact ⟨by rw [YES.out]; rfl, rfl⟩
theorem bool_infoR : (Try.prog.info? 4).map (fun i => (i.zero, i.size, i.bytes)) = some (some (.bool false), 1, 1) := by kernel_rfl
theorem edge_at2 {k : Nat} {es : List (Int × Int)} (h : es.all (edZ (k : Int)) = true) {i : Nat} {x : Int × Int} (hx : es[i]? = some x) : ∃ a b : Nat, x = ((a : Int), (b : Int)) ∧ a < k ∧ b < k ∧ (a, b) ∈ natE es := by
  have h1 := List.all_eq_true.1 h x (List.mem_of_getElem? hx)
  unfold edZ at h1
  simp at h1
  obtain ⟨x0, x1⟩ := x
  simp at h1
  refine ⟨x0.toNat, x1.toNat, ?_, by omega, by omega, List.mem_map.2 ⟨(x0, x1), List.mem_of_getElem? hx, rfl⟩⟩
  rw [Int.toNat_of_nonneg (by omega), Int.toNat_of_nonneg (by omega)]
/-- the marks in memory, and whether so many edges are closed -/
structure MK (w1 : World) (k bs f : Nat) (E : Ed) (s : Nat → Bool) (wr : World) : Prop where
  bel : Below w1.heap.size w1 wr
  blk : Blk wr bs 4 (tabB k s)
  inv : MkI E f s
  bsB : w1.heap.size ≤ bs
theorem MK.see {w1 wr : World} {k bs f : Nat} {E : Ed} {s : Nat → Bool} (h : MK w1 k bs f E s wr) {a b : Nat} (hb : b < k) (he : (a, b) ∈ E) (ha : s a = true) : MK w1 k bs f E (fup s b true) (wr.setCell ⟨bs, b, none⟩ (.bool true)) :=
  ⟨h.bel.setCell h.bsB _, by have := h.blk.set_ b (.bool true); rw [tabB_set _ hb] at this; exact this, h.inv.see he ha, h.bsB⟩
/-- so many edges are closed -/
def Shut (ag : Bool) (D : Ed) (s : Nat → Bool) : Prop := ag = false → ∀ e ∈ D, s e.1 = true → s e.2 = true
def More (ag : Bool) (a b : Nat) : Prop := a ≤ b ∧ (ag = true → a < b)
set_option maxRecDepth 100000 in
set_option maxHeartbeats 6400000 in
theorem marks_ok (w : World) (n f : Nat) (ea : Option Addr) (es : List (Int × Int)) (c : Nat) (hn : n ≤ 1024) (hf : f < n) (hm : es.length ≤ 16384) (hall : es.all (edZ (n : Int)) = true) (hc : Cells w ea (es.flatMap pairCells)) :
    Calls Try.prog 56 #[.int .i64 (n : Int), .slice ea es.length c, .int .i64 (f : Int)] w fun e w' => Below w.heap.size w w' ∧ ∃ b, e = .returned (.slice (some ⟨b, 0, none⟩) n n) ∧ w.heap.size ≤ b ∧ Blk w' b 4 (tabB n (rcB (natE es) f)) := by
  obtain ⟨N, hN⟩ : ∃ N, es.length = N := ⟨_, rfl⟩
  have HN := Lib.hid hN; have HC := Lib.hid hc; have HALL := Lib.hid hall
  rw [hN] at hm ⊢
  obtain ⟨i0, hi0, hz0, hz1, hz2⟩ := info_parts bool_infoR
  have hmb := run_make_n (P := Try.prog) 79 4 i0 (.bool false) 1 1 Try.underlying79 hi0 hz0 hz1 hz2 .i64 .i64 n n (Nat.le_refl _) (by omega) (by omega)
  rw [show madeCells (Value.bool false).cells (n * 1) = tabB n fun _ => false from made_rep n _] at hmb
  clear hN hc hall hi0 hz0 hz1 hz2
  go_enter Try.func56, Try.ntmps56
  go_upto_region 2 with (fail)
  obtain ⟨bs, hbs⟩ : ∃ bs, bs = w.heap.size := ⟨_, rfl⟩
  obtain ⟨w2, hw2⟩ : ∃ w2, w2 = w.alloc (.cells (tabB n fun _ => false) 4) := ⟨_, rfl⟩
  have hb2 : Below w.heap.size w w2 := by rw [hw2]; exact (Below.refl _ _).alloc (Nat.le_refl _) _
  have hk2 : Blk w2 bs 4 (tabB n fun _ => false) := by rw [hw2, hbs]; exact Blk.new_ _ _ _
  have hbsB : w.heap.size ≤ bs := by omega
  rw [← hbs, ← hw2]
  have o1 := (hk2.cell f).trans (tabB_get _ hf)
  have fo := hk2.frozen f
  have ol := hk2.lt
  have hMK : MK w n bs f (natE es) (fup (fun _ => false) f true) (w2.setCell ⟨bs, f, none⟩ (.bool true)) :=
    ⟨hb2.setCell hbsB _, by have := hk2.set_ f (.bool true); rw [tabB_set _ hf] at this; exact this, MkI.start _ f, hbsB⟩
  have HMK := Lib.hid hMK
  clear hMK hb2 hk2 hbsB hw2 hmb hbs
  go_upto_region 3 with (fail)
  obtain ⟨w3, hw3⟩ : ∃ w3, w3 = w2.setCell ⟨bs, f, none⟩ (.bool true) := ⟨_, rfl⟩
  rw [← hw3] at HMK ⊢
  clear hw3 o1 fo ol
  go_wp2_with fail
  go_loopg [8] (2 * n + 1) (fun m x wr => ∃ s ag, 2 * (n - cn s n) + ag.toNat ≤ m ∧ x = .bool ag ∧ MK w n bs f (natE es) s wr ∧ Shut ag (natE es) s)
  case atStart => exact ⟨_, true, by have := cn_le (fup (fun _ => false) f true) n; show _ + 1 ≤ _; omega, rfl, HMK.out, fun h => Bool.noConfusion h⟩
  case round =>
    obtain ⟨s, ag, hm2, rfl, hmk, hsh⟩ := hrel
    have HM := Lib.hid hm2; have HMK2 := Lib.hid hmk; have HSH := Lib.hid hsh
    clear hm2 hmk hsh HMK
    cases ag with
    | false =>
      go_wp2_with fail
      go_ret
      refine ⟨HMK2.out.bel, bs, rfl, HMK2.out.bsB, ?_⟩
      rw [← HMK2.out.inv.done (HSH.out rfl)]
      exact HMK2.out.blk
    | true =>
      clear HSH
      go_wp2_with fail
      go_loopg [8, 9] N (fun m x y wr => ∃ i s' ag', m + i = N ∧ y = .int .i64 (i : Int) ∧ x = .bool ag' ∧ MK w n bs f (natE es) s' wr ∧ More ag' (cn s n) (cn s' n) ∧ Shut ag' (natE (es.take i)) s')
      case atStart => exact ⟨0, s, false, rfl, rfl, rfl, HMK2.out, ⟨Nat.le_refl _, fun h => Bool.noConfusion h⟩, fun _ e he => absurd he (by simp [natE])⟩
      case round =>
        obtain ⟨i, s', ag', hm3, rfl, rfl, hmk, hle, hsh⟩ := hrel
        have HM3 := Lib.hid hm3; have HMK3 := Lib.hid hmk; have HLE := Lib.hid hle; have HSH := Lib.hid hsh
        clear hm3 hmk hle hsh HMK2
        by_cases hi : i < N
        · obtain ⟨x, hx⟩ : ∃ x, es[i]? = some x := ⟨_, List.getElem?_eq_getElem (by rw [HN.out]; exact hi)⟩
          obtain ⟨b, off, hea, hbl, k0, k1⟩ := (HC.out.below HMK3.out.bel).pair hx
          obtain ⟨u, v, rfl, hu, hv, huv⟩ := edge_at2 HALL.out hx
          subst hea
          simp only at k0 k1
          have q0 := (HMK3.out.blk.cell u).trans (tabB_get _ hu)
          have q1 := (HMK3.out.blk.cell v).trans (tabB_get _ hv)
          have fo := HMK3.out.blk.frozen v
          have ol := HMK3.out.blk.lt
          have htk := natE_take hx
          rw [Int.toNat_natCast, Int.toNat_natCast] at htk
          have HTK := Lib.hid htk; have HUV := Lib.hid huv
          obtain ⟨X, hX⟩ : ∃ X, s' u = X := ⟨_, rfl⟩
          obtain ⟨Y, hY⟩ : ∃ Y, s' v = Y := ⟨_, rfl⟩
          rw [hX] at q0
          rw [hY] at q1
          have HX := Lib.hid hX; have HY := Lib.hid hY
          clear hx htk huv hX hY
          have still : (X = true → Y = true) → Hid (Shut ag' (natE (es.take (i + 1))) s') := fun h => Lib.hid (fun ha e he h1 => by
            rw [HTK.out] at he
            rcases List.mem_append.1 he with he | he
            · exact HSH.out ha e he h1
            · simp at he
              subst he
              rw [HY.out]; exact h (by rw [← HX.out]; exact h1))
          have STILL := Lib.hid still
          clear still
          cases X with
          | false =>
            have HS2 := STILL.out (fun h => by cases h)
            go_wp2_with fail
            go_roundg (N - (i + 1))
            case measure => have := HM3.out; omega
            case rel => exact ⟨i + 1, s', ag', by have := HM3.out; omega, by go_num, rfl, HMK3.out, HLE.out, HS2.out⟩
          | true =>
            cases Y with
            | true =>
              have HS2 := STILL.out (fun _ => rfl)
              go_wp2_with fail
              go_roundg (N - (i + 1))
              case measure => have := HM3.out; omega
              case rel => exact ⟨i + 1, s', ag', by have := HM3.out; omega, by go_num, rfl, HMK3.out, HLE.out, HS2.out⟩
            | false =>
              have HMK4 := Lib.hid (HMK3.out.see hv HUV.out HX.out)
              have HCN := Lib.hid (cn_see hv HY.out)
              go_wp2_with fail
              go_roundg (N - (i + 1))
              case measure => have := HM3.out; omega
              case rel => exact ⟨i + 1, _, true, by have := HM3.out; omega, by go_num, rfl, HMK4.out, ⟨by rw [HCN.out]; have := HLE.out.1; omega, fun _ => by rw [HCN.out]; have := HLE.out.1; omega⟩, fun h => Bool.noConfusion h⟩
        · have hiN : i = N := by have := HM3.out; omega
          go_wp2_with fail
          go_roundg (2 * (n - cn s' n) + ag'.toNat)
          case measure =>
            have h1 := HM.out
            have h2 := HLE.out.1
            have h3 := HLE.out.2
            have h4 := cn_le s' n
            have h5 : (true : Bool).toNat = 1 := rfl
            cases ag' with
            | false => show _ + 0 < _; omega
            | true => have := h3 rfl; show _ + 1 < _; omega
          case rel => exact ⟨s', ag', Nat.le_refl _, rfl, HMK3.out, fun h => by
            have := HSH.out h
            rw [hiN, List.take_of_length_le (by rw [HN.out]; exact Nat.le_refl _)] at this; exact this⟩
end Go.Proofs.Ytbancojknahdgaa

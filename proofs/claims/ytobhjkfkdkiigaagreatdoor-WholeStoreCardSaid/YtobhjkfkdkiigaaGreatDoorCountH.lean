/- Layer 6: the contract of count.Cubes. -/
import Derived.Test.YtobhjkfkdkiigaaGreatDoorCountG
import Derived.Laws.EntriesVeiled
import Derived.BigQuiet
namespace Go.Proofs.YtobhjkfkdkiigaaGreatDoor
open Go.RowKit HP NP
theorem made_rep6 (n : Nat) : madeCells (Value.int .i64 0).cells (n * 1) = (zV (List.replicate n 0)).toArray := by
  apply Array.ext_getElem?
  intro j
  show (madeCells #[Value.int .i64 0] (n * 1))[j]? = _
  unfold madeCells zV
  by_cases hj : j < n
  · simp [hj, Nat.mod_one]
  · rw [Array.getElem?_eq_none (by simp; omega), Array.getElem?_eq_none (by simp; omega)]
def fillW (i n : Nat) : List Int := List.replicate i 2 ++ List.replicate (n - i) 0
theorem fillW_len {i n : Nat} (h : i ≤ n) : (fillW i n).length = n := by unfold fillW; simp; omega
theorem fillW_zero (n : Nat) : fillW 0 n = List.replicate n 0 := rfl
theorem fillW_all (n : Nat) : fillW n n = way2 n := by unfold fillW way2; rw [Nat.sub_self, List.replicate_zero, List.append_nil]
theorem fillW_at {i n : Nat} (h : i < n) : (fillW i n)[i]? = some 0 := by
  unfold fillW
  rw [List.getElem?_append_right (by simp), List.length_replicate, Nat.sub_self, List.getElem?_replicate, if_pos (by omega)]
theorem fillW_set {i n : Nat} (h : i < n) : (fillW i n).set i 2 = fillW (i + 1) n := by
  unfold fillW
  refine List.ext_getElem? fun j => ?_
  rw [List.getElem?_set]
  by_cases e : i = j
  · subst e
    rw [if_pos rfl, if_pos (by simp; omega), List.getElem?_append_left (by simp), List.getElem?_replicate, if_pos (by omega)]
  · rw [if_neg e]
    by_cases hj : j < i
    · rw [List.getElem?_append_left (by simp; omega), List.getElem?_append_left (by simp; omega), List.getElem?_replicate, List.getElem?_replicate, if_pos hj, if_pos (by omega)]
    · rw [List.getElem?_append_right (by simp; omega), List.getElem?_append_right (by simp; omega)]
      simp only [List.length_replicate, List.getElem?_replicate]
      by_cases hn : j < n
      · rw [if_pos (by omega), if_pos (by omega)]
      · rw [if_neg (by omega), if_neg (by omega)]
/-- rows of numbers of a call's own -/
structure RowsO (w : World) (B : Nat) (y : Value) (sls : List Value) (L : List (List Int)) : Prop where
  ow : w.ownsRow B 45 1 y L.length sls
  ins : ∀ (i : Nat) (l : List Int), L[i]? = some l → ∃ u, sls[i]? = some u ∧ w.ownsRow B 3 1 u l.length (zV l)
/-- what Cubes says of its arguments -/
noncomputable def cubE (S : NS) (k most : Int) : Int := if most < 0 ∨ 16384 < most then 1 else if isK S.l k = false then 3 else if most < ((cubes S k.toNat).length : Int) then 2 else 0
def CubesPost (S : NS) (k most : Int) (w : World) (e : Ending) (w' : World) : Prop :=
  Below w.heap.size w w' ∧ ((cubE S k most ≠ 0 ∧ e = .returned (.tuple #[.slice none 0 0, .int .i64 (cubE S k most)])) ∨
    (cubE S k most = 0 ∧ ∃ y sls, e = .returned (.tuple #[y, .int .i64 0]) ∧ RowsO w' w.heap.size y sls (cubes S k.toNat)))
theorem cubE_bad {S : NS} {k most : Int} (h : most < 0 ∨ 16384 < most) : cubE S k most = 1 := by unfold cubE; rw [if_pos h]
theorem cubE_gone {S : NS} {k most : Int} (h : ¬ (most < 0 ∨ 16384 < most)) (hk : isK S.l k = false) : cubE S k most = 3 := by unfold cubE; rw [if_neg h, if_pos hk]
theorem cubE_full {S : NS} {k most : Int} (h : ¬ (most < 0 ∨ 16384 < most)) (hk : isK S.l k = true) (hm : most < ((cubes S k.toNat).length : Int)) : cubE S k most = 2 := by unfold cubE; rw [if_neg h, if_neg (by rw [hk]; decide), if_pos hm]
theorem cubE_ok {S : NS} {k most : Int} (h : ¬ (most < 0 ∨ 16384 < most)) (hk : isK S.l k = true) (hm : ¬ most < ((cubes S k.toNat).length : Int)) : cubE S k most = 0 := by unfold cubE; rw [if_neg h, if_neg (by rw [hk]; decide), if_neg hm]
theorem cnt_ne0 {S : NS} (hW : Wf S) : (((NP.cnt S.l : Nat) : Int) == 0) = false := by
  rw [beq_eq_false_iff_ne]
  have h1 := hW.is1
  have hl := isB_lt h1
  have : 0 < NP.cnt S.l := List.countP_pos_iff.2 ⟨nd S.l 1, List.mem_of_getElem? (nd_lt hl), h1⟩
  omega
/-- the memory ahead of the walk -/
theorem cub_start {w wr : World} {B p sb tb wy yb V mo : Nat} {S : NS} (hs : Sto w B p S) (h1 : Box1 w sb (.pointer (some ⟨p, 0, none⟩))) (h2 : Box1 w tb (.int .i64 (mo : Int))) (hb : Below w.heap.size w wr) (hw : Blk wr wy 3 (zV (way2 V)).toArray) (hy : Box1 wr yb (.slice (some ⟨wy, 0, none⟩) V V)) (h0 : w.heap.size ≤ wy) (hne : yb = wy + 1)
    {ob fb xb : Nat} (e1 : ob = wr.heap.size) (e2 : fb = ob + 1) (e3 : xb = ob + 1 + 1) {w4 : World}
    (hw4 : w4 = ((wr.alloc (.cells #[.slice none 0 0] 42)).alloc (.cells #[.bool false] 4)).alloc (.cells #[.nilFunc] 204)) :
    Box1 w4 xb .nilFunc ∧ CubS (w4.setCell ⟨xb, 0, none⟩ (cubC fb ob tb yb sb xb)) (w4.setCell ⟨xb, 0, none⟩ (cubC fb ob tb yb sb xb)) fb ob wy (way2 V) [] false (.slice none 0 0) [] ∧
    (∀ w', Only (W3 fb ob wy) (w4.setCell ⟨xb, 0, none⟩ (cubC fb ob tb yb sb xb)) w' → CubH w' B p tb yb sb xb fb ob wy V mo S) ∧ Below w.heap.size w (w4.setCell ⟨xb, 0, none⟩ (cubC fb ob tb yb sb xb)) := by
  obtain ⟨wa, hwa⟩ : ∃ wa, wa = wr.alloc (.cells #[.slice none 0 0] 42) := ⟨_, rfl⟩
  obtain ⟨wb1, hwb⟩ : ∃ wb1, wb1 = wa.alloc (.cells #[.bool false] 4) := ⟨_, rfl⟩
  rw [← hwa, ← hwb] at hw4
  have z1 : wa.heap.size = ob + 1 := by rw [hwa, e1]; simp
  have z2 : wb1.heap.size = ob + 1 + 1 := by rw [hwb, ← z1]; simp
  have z3 : w4.heap.size = ob + 1 + 1 + 1 := by rw [hw4, ← z2]; simp
  have b1 : Below wr.heap.size wr wa := by rw [hwa]; exact (Below.refl _ _).alloc (Nat.le_refl _) _
  have b2 : Below wa.heap.size wa wb1 := by rw [hwb]; exact (Below.refl _ _).alloc (Nat.le_refl _) _
  have b3 : Below wb1.heap.size wb1 w4 := by rw [hw4]; exact (Below.refl _ _).alloc (Nat.le_refl _) _
  have k1 : Blk wa ob 42 #[.slice none 0 0] := by rw [hwa, e1]; exact Blk.new_ _ _ _
  have k2 : Blk wb1 fb 4 #[.bool false] := by rw [hwb, e2, ← z1]; exact Blk.new_ _ _ _
  have k3 : Blk w4 xb 204 #[.nilFunc] := by rw [hw4, e3, ← z2]; exact Blk.new_ _ _ _
  obtain ⟨w5, hw5⟩ : ∃ w5, w5 = w4.setCell ⟨xb, 0, none⟩ (cubC fb ob tb yb sb xb) := ⟨_, rfl⟩
  rw [← hw5]
  have hset : Below wb1.heap.size w4 w5 := by rw [hw5]; exact (Below.refl _ _).setCell (by show wb1.heap.size ≤ xb; omega) _
  have f3 : Blk w5 xb 204 #[cubC fb ob tb yb sb xb] := by rw [hw5]; exact k3.set_ 0 _
  have z5 : w5.heap.size = w4.heap.size := by rw [hw5]; simp [World.setCell]
  have d2 : Below wb1.heap.size wb1 w5 := b3.trans hset
  have d1 : Below wa.heap.size wa w5 := b2.trans (d2.mono (by omega))
  have d0 : Below wr.heap.size wr w5 := b1.trans (d1.mono (by omega))
  have dw : Below w.heap.size w w5 := hb.trans (d0.mono hb.size)
  have l1 := hw.lt; have l2 := hy.lt; have l3 := hb.size; have l4 := h1.lt; have l5 := h2.lt
  have m1 : Blk w5 ob 42 #[.slice none 0 0] := k1.below d1 (by omega)
  have m2 : Blk w5 fb 4 #[.bool false] := k2.below d2 (by omega)
  have m3 : Blk w5 wy 3 (zV (way2 V)).toArray := hw.below d0 l1
  have m4 : Box1 w5 yb (.slice (some ⟨wy, 0, none⟩) V V) := hy.below d0
  refine ⟨⟨_, k3⟩, ⟨m2.lt, m1.lt, m3.lt, Only.refl _ _, m2, m1, m3, World.ownsRow_nil _ _ _ _, fun i l hl => by simp at hl⟩, fun w' ho => ?_, dw⟩
  have hbw : Below w.heap.size w w' := dw.trans (Only.below ho (fun i hi _ hf => by unfold W3 at hf; omega) (by omega))
  refine ⟨hs.below hbw, (h2.below hbw).cell, ?_, (h1.below hbw).cell, ?_⟩
  · rw [ho.cell (p := ⟨yb, 0, none⟩) m4.lt (by show ¬ W3 fb ob wy yb; unfold W3; omega)]; exact m4.cell
  · rw [ho.cell (p := ⟨xb, 0, none⟩) f3.lt (by show ¬ W3 fb ob wy xb; unfold W3; omega)]; exact f3.cell 0
set_option maxRecDepth 100000 in
set_option maxHeartbeats 6400000 in
theorem cubes_ok (w : World) (B p : Nat) (S : NS) (h : Sto w B p S) (hv1 : 1 ≤ S.vars) (k most : Int) :
    Calls Tryz.prog 96 #[.pointer (some ⟨p, 0, none⟩), .int .i64 k, .int .i64 most] w (CubesPost S k most w) := by
  have hmf : ∀ (fn : Fn) (first cap : Array Value) (w : World), (Instr.makeFunc fn first cap).run Tryz.prog w = .ok (.func fn first cap) w := fun _ _ _ _ => rfl
  obtain ⟨w1, hw1⟩ : ∃ w1, w1 = (w.alloc (.cells #[.pointer (some ⟨p, 0, none⟩)] 23)).alloc (.cells #[.int .i64 most] 3) := ⟨_, rfl⟩
  have hb1 : Below w.heap.size w w1 := by rw [hw1]; exact ((Below.refl _ _).alloc (Nat.le_refl _) _).alloc (by simp) _
  obtain ⟨sb, hsb⟩ : ∃ sb, sb = w.heap.size := ⟨_, rfl⟩
  obtain ⟨tb, htb⟩ : ∃ tb, tb = sb + 1 := ⟨_, rfl⟩
  have k1 : Box1 w1 sb (.pointer (some ⟨p, 0, none⟩)) := ⟨_, by rw [hw1, hsb]; exact (Blk.new_ _ _ _).alloc_ _⟩
  have k2 : Box1 w1 tb (.int .i64 most) := ⟨3, by
    have h := Blk.new_ (w.alloc (.cells #[.pointer (some ⟨p, 0, none⟩)] 23)) 3 #[.int .i64 most]
    rw [World.size_alloc] at h
    rw [hw1, htb, hsb]; exact h⟩
  have HS1 := Lib.hid (h.below hb1)
  have HL1 := Lib.hid (nlen_ok w1 B p S HS1.out)
  have HMY := Lib.hid (cmay6_ok w1 B p S HS1.out k)
  have hcn := cnt_ne0 HS1.out.wf
  obtain ⟨cn, hcn2⟩ : ∃ cn : Int, ((NP.cnt S.l : Nat) : Int) = cn := ⟨_, rfl⟩
  rw [hcn2] at hcn HL1
  have x1 := k1.cell; have x2 := k2.cell
  have HW1 := Lib.hid hw1; have HSB := Lib.hid hsb; have HTB := Lib.hid htb; have HB1 := Lib.hid hb1; have HK1 := Lib.hid k1; have HK2 := Lib.hid k2
  clear h hw1 hsb htb hb1 k1 k2 hcn2
  go_enter Tryz.func96, Tryz.ntmps96
  go_upto_region 1 with (fail)
  rw [← HW1.out]
  rw [← HSB.out, ← HTB.out]
  by_cases h1 : most < 0
  · have d1 : decide (most < 0) = true := decide_eq_true h1
    have HE := Lib.hid (cubE_bad (S := S) (k := k) (Or.inl h1))
    clear h1
    go_wp2_with fail
    refine HL1.out.mono ?_
    rintro e w2 ⟨rfl, rfl⟩
    go_wp2_with fail
    go_ret2
    exact ⟨HB1.out, .inl ⟨by rw [HE.out]; decide, by rw [HE.out]; rfl⟩⟩
  by_cases h2 : 16384 < most
  · have d1 : decide (most < 0) = false := decide_eq_false h1
    have d2 : decide (16384 < most) = true := decide_eq_true h2
    have HE := Lib.hid (cubE_bad (S := S) (k := k) (Or.inr h2))
    clear h1 h2
    go_wp2_with fail
    refine HL1.out.mono ?_
    rintro e w2 ⟨rfl, rfl⟩
    go_wp2_with fail
    go_ret2
    exact ⟨HB1.out, .inl ⟨by rw [HE.out]; decide, by rw [HE.out]; rfl⟩⟩
  have d1 : decide (most < 0) = false := decide_eq_false h1
  have d2 : decide (16384 < most) = false := decide_eq_false h2
  have HNB : Hid (¬ (most < 0 ∨ 16384 < most)) := Lib.hid (by omega)
  cases hk : isK S.l k with
  | false =>
    have hf : findE S k = 3 := by unfold findE; rw [hk]; rfl
    rw [hf] at HMY
    have HE := Lib.hid (cubE_gone HNB.out hk)
    clear hf hk h1 h2
    go_wp2_with fail
    refine HL1.out.mono ?_
    rintro e w2 ⟨rfl, rfl⟩
    go_wp2_with fail
    refine HMY.out.mono ?_
    rintro e w2 ⟨rfl, nq, hw2⟩
    have HB2 : Hid (Below w.heap.size w w2) := Lib.hid (by rw [hw2]; exact HB1.out.trans ((bdN' _ _).mono HB1.out.size))
    clear hw2
    go_wp2_with fail
    go_ret2
    exact ⟨HB2.out, .inl ⟨by rw [HE.out]; decide, by rw [HE.out]; rfl⟩⟩
  | true =>
    have hf : findE S k = 0 := by unfold findE; rw [hk]; rfl
    rw [hf] at HMY
    obtain ⟨kn, rfl, hkb⟩ := isK_out hk
    obtain ⟨mo, rfl⟩ : ∃ mo : Nat, most = (mo : Int) := ⟨most.toNat, by omega⟩
    have hmo : mo ≤ 16384 := by omega
    have HK := Lib.hid hk; have HKB := Lib.hid hkb; have HMO := Lib.hid hmo
    obtain ⟨V, hV⟩ : ∃ V, S.vars = V := ⟨_, rfl⟩
    have hV2 : V ≤ 256 := by rw [← hV]; exact HS1.out.wf.v256
    rw [hV] at hv1
    have HV := Lib.hid hV; have HV1 := Lib.hid hv1; have HV2 := Lib.hid hV2
    obtain ⟨j0, hj0, yz0, yz1, yz2⟩ := info_parts int_info
    have hmk := run_make_n (P := Tryz.prog) 45 3 j0 (.int .i64 0) 1 8 Tryz.underlying45 hj0 yz0 yz1 yz2 .i64 .i64 V V (Nat.le_refl _) (by omega) (by omega)
    rw [made_rep6] at hmk
    clear hf hk hkb h1 h2 hmo hV yz0 yz1 yz2 hj0
    go_wp2_with fail
    refine HL1.out.mono ?_
    rintro e w2 ⟨rfl, rfl⟩
    go_wp2_with fail
    refine HMY.out.mono ?_
    rintro e w2 ⟨rfl, nq, hw2⟩
    have hb2 : Below w1.heap.size w1 w2 := by rw [hw2]; exact bdN' _ _
    have HB2 : Hid (Below w.heap.size w w2) := Lib.hid (HB1.out.trans (hb2.mono HB1.out.size))
    have HS2 := Lib.hid (HS1.out.below hb2); have HK12 := Lib.hid (HK1.out.below hb2); have HK22 := Lib.hid (HK2.out.below hb2)
    clear hw2 hb2 x1 x2
    have x1 : w2.cell? ⟨sb, 0, none⟩ = some (.pointer (some ⟨p, 0, none⟩)) := HK12.out.cell
    have HVS := Lib.hid (nvars_ok w2 B p S HS2.out)
    rw [HV.out] at HVS
    go_wp2_with fail
    refine HVS.out.mono ?_
    rintro e w3 ⟨rfl, rfl⟩
    go_wp2_with fail
    obtain ⟨wy, hwy⟩ : ∃ wy, wy = w2.heap.size := ⟨_, rfl⟩
    obtain ⟨yb, hyb⟩ : ∃ yb, yb = wy + 1 := ⟨_, rfl⟩
    obtain ⟨w3, hw3⟩ : ∃ w3, w3 = (w2.alloc (.cells (zV (List.replicate V 0)).toArray 3)).alloc (.cells #[.slice (some ⟨wy, 0, none⟩) V V] 45) := ⟨_, rfl⟩
    rw [← hwy]
    rw [← hyb]
    rw [← hw3]
    have hb3 : Below w2.heap.size w2 w3 := by rw [hw3]; exact ((Below.refl _ _).alloc (Nat.le_refl _) _).alloc (by simp) _
    have k3 : Blk w3 wy 3 (zV (fillW 0 V)).toArray := by rw [hw3, hwy, fillW_zero]; exact (Blk.new_ _ _ _).alloc_ _
    have k4 : Box1 w3 yb (.slice (some ⟨wy, 0, none⟩) V V) := ⟨45, by
      have h := Blk.new_ (w2.alloc (.cells (zV (List.replicate V 0)).toArray 3)) 45 #[.slice (some ⟨wy, 0, none⟩) V V]
      rw [World.size_alloc] at h
      rw [hw3, hyb, hwy]; rw [hwy] at h; exact h⟩
    have HS3 := Lib.hid (HS2.out.below hb3); have HK13 := Lib.hid (HK12.out.below hb3); have HK23 := Lib.hid (HK22.out.below hb3); have HK33 := Lib.hid k3; have HK43 := Lib.hid k4
    have HB3 := Lib.hid (HB2.out.trans (hb3.mono HB2.out.size))
    have HB32 := Lib.hid hb3
    have HWY := Lib.hid hwy; have HYB := Lib.hid hyb
    have HY0 : Hid (w2.heap.size ≤ wy) := Lib.hid (by omega)
    clear hwy hyb hw3 hb3 k3 k4 x1 hmk
    go_loopg [36] V (fun mm x wr => ∃ i : Nat, mm + i = V ∧ x = .int .i64 (i : Int) ∧ Only (fun b => b = wy) w3 wr ∧ Blk wr wy 3 (zV (fillW i V)).toArray)
    case atStart => exact ⟨0, by omega, rfl, Only.refl _ _, HK33.out⟩
    case round =>
      obtain ⟨i, hm2, rfl, ho, hbk⟩ := hrel
      have HMM := Lib.hid hm2; have HO := Lib.hid ho; have HBK := Lib.hid hbk
      clear hm2 ho hbk
      by_cases hi : i < V
      · have hb0 : (0 : Int) ≤ (i : Int) := by omega
        have hb9 : (i : Int) < (V : Int) := by omega
        have y1 : wr.cell? ⟨yb, 0, none⟩ = some (.slice (some ⟨wy, 0, none⟩) V V) := by
          have := HO.out.cell (p := ⟨yb, 0, none⟩) HK43.out.lt (show ¬ yb = wy by have := HYB.out; omega)
          rw [this]; exact HK43.out.cell
        have y2 : wr.cell? ⟨wy, i, none⟩ = some (.int .i64 0) := (HBK.out.cell i).trans (by rw [List.getElem?_toArray]; exact zV_at (fillW_at hi))
        have y3 := HBK.out.frozen i
        have y4 := HBK.out.lt
        have HN := Lib.hid (show Blk (wr.setCell ⟨wy, i, none⟩ (.int .i64 2)) wy 3 (zV (fillW (i + 1) V)).toArray by rw [← fillW_set hi, ← zV_set]; exact HBK.out.set_ i _)
        have HON := Lib.hid (HO.out.setCell (p := ⟨wy, i, none⟩) (fun _ => rfl) (.int .i64 2))
        go_wp2_with fail
        go_roundg (V - (i + 1))
        case measure => have := HMM.out; omega
        case rel => exact ⟨i + 1, by omega, by go_num, HON.out, HN.out⟩
      · have hie : i = V := by have := HMM.out; omega
        subst hie
        have hbr : Below w2.heap.size w3 wr := Only.below HO.out (fun j hj _ hf => by have := HY0.out; omega) HB32.out.size
        have hbk := HBK.out
        rw [fillW_all] at hbk
        have hyr : Box1 wr yb (.slice (some ⟨wy, 0, none⟩) i i) := by
          obtain ⟨ty, h⟩ := HK43.out
          exact ⟨ty, h.only HO.out (by have := HYB.out; omega)⟩
        obtain ⟨ob, hob⟩ : ∃ ob, ob = wr.heap.size := ⟨_, rfl⟩
        obtain ⟨fb, hfb⟩ : ∃ fb, fb = ob + 1 := ⟨_, rfl⟩
        obtain ⟨xb, hxb⟩ : ∃ xb, xb = ob + 1 + 1 := ⟨_, rfl⟩
        obtain ⟨w4, hw4⟩ : ∃ w4, w4 = ((wr.alloc (.cells #[.slice none 0 0] 42)).alloc (.cells #[.bool false] 4)).alloc (.cells #[.nilFunc] 204) := ⟨_, rfl⟩
        obtain ⟨kxb, hcs, hch, hb25⟩ := cub_start HS2.out HK12.out HK22.out (HB32.out.trans hbr) hbk hyr HY0.out HYB.out hob hfb hxb hw4
        have y1 := kxb.cell
        have y2 := kxb.frozen
        have y3 := kxb.lt
        have HOB := Lib.hid hob; have HFB := Lib.hid hfb; have HXB := Lib.hid hxb; have HW4 := Lib.hid hw4
        have HCS := Lib.hid hcs; have HCH := Lib.hid hch; have HB25 := Lib.hid hb25
        clear hob hfb hxb hw4 kxb hcs hch hb25 hbr hbk hyr
        go_upto_region 15 with (fail)
        rw [← HOB.out]
        rw [← HXB.out, ← HFB.out]
        rw [← HW4.out]
        go_upto_region 16 with (fail)
        obtain ⟨w5, hw5⟩ : ∃ w5, w5 = w4.setCell ⟨xb, 0, none⟩ (cubC fb ob tb yb sb xb) := ⟨_, rfl⟩
        rw [← hw5] at HCS HCH HB25
        have HW5 : Hid (w4.setCell ⟨xb, 0, none⟩ (.func (.func 129) #[] #[.pointer (some ⟨fb, 0, none⟩), .pointer (some ⟨ob, 0, none⟩), .pointer (some ⟨tb, 0, none⟩), .pointer (some ⟨yb, 0, none⟩), .pointer (some ⟨sb, 0, none⟩), .pointer (some ⟨xb, 0, none⟩)]) = w5) := Lib.hid hw5.symm
        clear hw5 y1 y2 y3
        rw [HW5.out]
        have x4 : w5.cell? ⟨xb, 0, none⟩ = some (cubC fb ob tb yb sb xb) := (HCH.out w5 (Only.refl _ _)).c4
        unfold cubC at x4
        have hen := call_cub
        have HC := Lib.hid (cub_ok w5 B p tb yb sb xb fb ob wy i mo S HS2.out.wf HV.out.symm hv1 HMO.out HCH.out 257 w5 kn (way2 i) [] false _ _ HCS.out HKB.out (by have := HV.out; omega) (way2_len i) (fun j _ hj => way2_get hj) (Nat.zero_le _))
        go_wp2_with fail
        refine HC.out.mono ?_
        rintro e w6 ⟨rfl, ya, sla, hs6⟩
        rw [show cubB S.l kn (way2 i) = cubes S kn by unfold cubes; rw [HV.out], addC_is mo (cubes S kn) [] (Nat.zero_le _)] at hs6
        have HB6 : Hid (Below w.heap.size w w6) := Lib.hid (by
          have hb56 : Below w2.heap.size w5 w6 := Only.below hs6.rel (fun j hj _ hf => by unfold W3 at hf; have := HY0.out; have := HB32.out.size; have := HFB.out; have := HOB.out; have := HO.out.size; omega) HB25.out.size
          exact HB2.out.trans ((HB25.out.trans hb56).mono HB2.out.size))
        have HBW : Hid (w.heap.size ≤ w5.heap.size) := Lib.hid (Nat.le_trans HB2.out.size HB25.out.size)
        clear x4 hen
        by_cases hle : (cubes S kn).length ≤ mo
        · rw [if_pos (by simpa using hle)] at hs6
          have HE := Lib.hid (cubE_ok (S := S) (k := (kn : Int)) HNB.out HK.out (by rw [Int.toNat_natCast]; omega))
          have y1 : w6.cell? ⟨fb, 0, none⟩ = some (.bool false) := hs6.fl.cell 0
          have y2 : w6.cell? ⟨ob, 0, none⟩ = some ya := hs6.ot.cell 0
          have HS6 := Lib.hid hs6
          clear hs6 hle
          go_wp2_with fail
          go_ret2
          refine ⟨HB6.out, .inr ⟨HE.out, ya, sla, rfl, ?_⟩⟩
          rw [Int.toNat_natCast]
          refine ⟨own_base HS6.out.ow HBW.out, fun j l hl => ?_⟩
          obtain ⟨u, h1, h2⟩ := HS6.out.ins j l hl
          exact ⟨u, h1, own_base h2 HBW.out⟩
        · rw [if_neg (by simpa using hle)] at hs6
          have HE := Lib.hid (cubE_full (S := S) (k := (kn : Int)) (most := (mo : Int)) HNB.out HK.out (by rw [Int.toNat_natCast]; omega))
          have y1 : w6.cell? ⟨fb, 0, none⟩ = some (.bool true) := hs6.fl.cell 0
          have HS6 := Lib.hid hs6
          clear hs6 hle
          go_wp2_with fail
          go_ret2
          exact ⟨HB6.out, .inl ⟨by rw [HE.out]; decide, by rw [HE.out]; rfl⟩⟩
end Go.Proofs.YtobhjkfkdkiigaaGreatDoor

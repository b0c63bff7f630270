/- Layer 6: the contract of count.Asks. -/
import Derived.Test.YtobhjkfkdkiigaaGreatDoorCountA
import Derived.Test.YtobhjkfkdkiigaaGreatDoorCountB
import Derived.Test.YtobhjkfkdkiigaaGreatDoorCountJ
import Derived.Laws.EntriesVeiled
namespace Go.Proofs.YtobhjkfkdkiigaaGreatDoor
open Go.RowKit HP NP
def nZ (l : List Nat) : List Int := l.map fun k : Nat => (k : Int)
theorem has_set {w : World} {b n : Nat} {s : Nat → Bool} (h : SetAt w b n s) : ∃ D, w.ownsMap Tryz.prog 3 hR b (cntS s n) D ∧ Maps.size D = cntS s n ∧ ∀ x : Int, Maps.has D (.int .i64 x) = true ↔ 0 ≤ x ∧ s x.toNat = true := by
  obtain ⟨D, h1, h2, h3⟩ := h
  refine ⟨D, h1, h2, fun x => ?_⟩
  rw [(h3 _).1]
  show (if decide (0 ≤ x) && s x.toNat then some (Value.bool true) else none).isSome = true ↔ _
  by_cases hx : 0 ≤ x
  · cases hs : s x.toNat <;> simp [hx]
  · simp [hx]
theorem asks_keys {S : NS} {k : Nat} {t : Nat → Bool} (hW : Wf S) (hk : isB S.l k = true) (ht : ∀ v, t v = askB S.l k v) (x : Int) : x ∈ nZ (asksL S k) ↔ 0 ≤ x ∧ t x.toNat = true := by
  unfold nZ
  rw [List.mem_map]
  constructor
  · rintro ⟨v, hv, rfl⟩
    refine ⟨Int.natCast_nonneg _, ?_⟩
    rw [Int.toNat_natCast, ht]
    exact (mem_asksL hW hk).1 hv
  · rintro ⟨h0, h1⟩
    exact ⟨x.toNat, (mem_asksL hW hk).2 (by rw [← ht]; exact h1), Int.toNat_of_nonneg h0⟩
theorem nZ_rise {l : List Nat} (h : l.Pairwise (· < ·)) : (nZ l).Pairwise (· < ·) := by
  unfold nZ
  rw [List.pairwise_map]
  exact h.imp fun h => by omega
theorem asksL_rise (S : NS) (k : Nat) : (asksL S k).Pairwise (· < ·) := List.Pairwise.filter _ List.pairwise_lt_range
theorem SetAt.new (w : World) (n : Nat) : SetAt (w.alloc (.map #[] 0)) w.heap.size n (fun _ => false) := by
  have h := MapAt.made w Tryz.prog 3
  have e : setM (fun _ => false) = fun _ => none := by
    funext l
    cases l with
    | int kd z => cases kd <;> simp [setM]
    | _ => rfl
  have c : cntS (fun _ => false) n = 0 := by unfold cntS; simp
  unfold SetAt
  rw [e, c]
  exact h
/-- the memory ahead of the walk -/
theorem ask_start {w : World} {B p ss : Nat} {S : NS} (hs : Sto w B p S) (hk : Box1 w ss (.pointer (some ⟨p, 0, none⟩))) {t1 t2 : TypeId} {ms mv bs vs wb : Nat} (e1 : ms = w.heap.size) (e2 : mv = ms + 1) (e3 : bs = ms + 1 + 1) (e4 : vs = ms + 1 + 1 + 1) (e5 : wb = ms + 1 + 1 + 1 + 1) {w3 : World}
    (hw : w3 = ((((w.alloc (.map #[] 0)).alloc (.map #[] 0)).alloc (.cells #[.map (some ms)] t1)).alloc (.cells #[.map (some mv)] t1)).alloc (.cells #[.nilFunc] t2)) :
    Box1 w3 wb .nilFunc ∧ Below w.heap.size w w3 ∧ AskM (w3.setCell ⟨wb, 0, none⟩ (askC bs ss vs wb)) B p bs ss vs wb ms mv S (fun _ => false) (fun _ => false) ∧ Below w.heap.size w (w3.setCell ⟨wb, 0, none⟩ (askC bs ss vs wb)) := by
  obtain ⟨wa, hwa⟩ : ∃ wa, wa = w.alloc (.map #[] 0) := ⟨_, rfl⟩
  obtain ⟨wb1, hwb⟩ : ∃ wb1, wb1 = wa.alloc (.map #[] 0) := ⟨_, rfl⟩
  obtain ⟨wc, hwc⟩ : ∃ wc, wc = wb1.alloc (.cells #[.map (some ms)] t1) := ⟨_, rfl⟩
  obtain ⟨wd, hwd⟩ : ∃ wd, wd = wc.alloc (.cells #[.map (some mv)] t1) := ⟨_, rfl⟩
  rw [← hwa, ← hwb, ← hwc, ← hwd] at hw
  have z1 : wa.heap.size = ms + 1 := by rw [hwa, e1]; simp
  have z2 : wb1.heap.size = ms + 1 + 1 := by rw [hwb, ← z1]; simp
  have z3 : wc.heap.size = ms + 1 + 1 + 1 := by rw [hwc, ← z2]; simp
  have z4 : wd.heap.size = ms + 1 + 1 + 1 + 1 := by rw [hwd, ← z3]; simp
  have b1 : Below w.heap.size w wa := by rw [hwa]; exact (Below.refl _ _).alloc (Nat.le_refl _) _
  have b2 : Below wa.heap.size wa wb1 := by rw [hwb]; exact (Below.refl _ _).alloc (Nat.le_refl _) _
  have b3 : Below wb1.heap.size wb1 wc := by rw [hwc]; exact (Below.refl _ _).alloc (Nat.le_refl _) _
  have b4 : Below wc.heap.size wc wd := by rw [hwd]; exact (Below.refl _ _).alloc (Nat.le_refl _) _
  have b5 : Below wd.heap.size wd w3 := by rw [hw]; exact (Below.refl _ _).alloc (Nat.le_refl _) _
  have s1 : SetAt wa ms S.l.length (fun _ => false) := by rw [hwa, e1]; exact SetAt.new _ _
  have s2 : SetAt wb1 mv 256 (fun _ => false) := by rw [hwb, e2, ← z1]; exact SetAt.new _ _
  have k3 : Box1 wc bs (.map (some ms)) := ⟨t1, by rw [hwc, e3, ← z2]; exact Blk.new_ _ _ _⟩
  have k4 : Box1 wd vs (.map (some mv)) := ⟨t1, by rw [hwd, e4, ← z3]; exact Blk.new_ _ _ _⟩
  have k5 : Blk w3 wb t2 #[.nilFunc] := by rw [hw, e5, ← z4]; exact Blk.new_ _ _ _
  have c4 := b4.trans (b5.mono b4.size)
  have c3 := b3.trans (c4.mono b3.size)
  have c2 := b2.trans (c3.mono b2.size)
  have c1 := b1.trans (c2.mono b1.size)
  have hset : Below wd.heap.size w3 (w3.setCell ⟨wb, 0, none⟩ (askC bs ss vs wb)) := (Below.refl _ _).setCell (by show wd.heap.size ≤ wb; omega) _
  have f5 : Blk (w3.setCell ⟨wb, 0, none⟩ (askC bs ss vs wb)) wb t2 #[askC bs ss vs wb] := k5.set_ 0 _
  have d1 : Below w.heap.size w (w3.setCell ⟨wb, 0, none⟩ (askC bs ss vs wb)) := c1.trans (hset.mono (by omega))
  have d2 : Below wa.heap.size wa (w3.setCell ⟨wb, 0, none⟩ (askC bs ss vs wb)) := c2.trans (hset.mono (by omega))
  have d3 : Below wb1.heap.size wb1 (w3.setCell ⟨wb, 0, none⟩ (askC bs ss vs wb)) := c3.trans (hset.mono (by omega))
  have d4 : Below wc.heap.size wc (w3.setCell ⟨wb, 0, none⟩ (askC bs ss vs wb)) := c4.trans (hset.mono (by omega))
  have d5 : Below wd.heap.size wd (w3.setCell ⟨wb, 0, none⟩ (askC bs ss vs wb)) := b5.trans hset
  exact ⟨⟨_, k5⟩, c1, ⟨hs.below d1, k3.below d4, hk.below d1, k4.below d5, ⟨_, f5⟩, MapAt.below s1 d2, MapAt.below s2 d3, by omega⟩, d1⟩
def AsksPost (S : NS) (k : Int) (w : World) (e : Ending) (w' : World) : Prop :=
  Below w.heap.size w w' ∧ ((isK S.l k = false ∧ e = .returned (.tuple #[.slice none 0 0, .int .i64 3])) ∨ (isK S.l k = true ∧ ∃ v, e = .returned (.tuple #[v, .int .i64 0]) ∧ w'.ownsRow w.heap.size 3 1 v (asksL S k.toNat).length (zV (nZ (asksL S k.toNat)))))
set_option maxRecDepth 100000 in
set_option maxHeartbeats 4000000 in
theorem asks_ok (w : World) (B p : Nat) (S : NS) (h : Sto w B p S) (k : Int) : Calls Tryz.prog 155 #[.pointer (some ⟨p, 0, none⟩), .int .i64 k] w (AsksPost S k w) := by
  have hmk := @run_makeMap Tryz.prog
  have hmf : ∀ (fn : Fn) (first cap : Array Value) (w : World), (Instr.makeFunc fn first cap).run Tryz.prog w = .ok (.func fn first cap) w := fun _ _ _ _ => rfl
  obtain ⟨w1, hw1⟩ : ∃ w1, w1 = w.alloc (.cells #[.pointer (some ⟨p, 0, none⟩)] 23) := ⟨_, rfl⟩
  have hb1 : Below w.heap.size w w1 := by rw [hw1]; exact (Below.refl _ _).alloc (Nat.le_refl _) _
  obtain ⟨ss, hss⟩ : ∃ ss, ss = w.heap.size := ⟨_, rfl⟩
  have k1 : Box1 w1 ss (.pointer (some ⟨p, 0, none⟩)) := ⟨_, by rw [hw1, hss]; exact Blk.new_ _ _ _⟩
  have HS1 := Lib.hid (h.below hb1)
  have HMY := Lib.hid (cmay6_ok w1 B p S HS1.out k)
  have x1 := k1.cell
  have HW1 := Lib.hid hw1; have HSS := Lib.hid hss; have HB1 := Lib.hid hb1; have HK1 := Lib.hid k1
  clear h hw1 hss hb1 k1
  go_enter Tryz.func155, Tryz.ntmps155
  go_upto_region 1 with (fail)
  rw [← HW1.out]
  try rw [← HSS.out]
  cases hk : isK S.l k with
  | false =>
    have hf : findE S k = 3 := by unfold findE; rw [hk]; rfl
    rw [hf] at HMY
    have HK := Lib.hid hk
    clear hf hk
    go_wp2_with fail
    refine HMY.out.mono ?_
    rintro e w2 ⟨rfl, nq, hw2⟩
    have HB2 : Hid (Below w.heap.size w w2) := Lib.hid (by rw [hw2]; exact HB1.out.trans ((bdN' _ _).mono HB1.out.size))
    clear hw2
    go_wp2_with fail
    go_ret2
    exact ⟨HB2.out, .inl ⟨HK.out, rfl⟩⟩
  | true =>
    have hf : findE S k = 0 := by unfold findE; rw [hk]; rfl
    rw [hf] at HMY
    obtain ⟨kn, rfl, hkb⟩ := isK_out hk
    have HK := Lib.hid hk; have HKB := Lib.hid hkb
    clear hf hk hkb
    go_wp2_with fail
    refine HMY.out.mono ?_
    rintro e w2 ⟨rfl, nq, hw2⟩
    have hb2 : Below w1.heap.size w1 w2 := by rw [hw2]; exact bdN' _ _
    have HB2 : Hid (Below w.heap.size w w2) := Lib.hid (HB1.out.trans (hb2.mono HB1.out.size))
    have HS2 := Lib.hid (HS1.out.below hb2); have HK2 := Lib.hid (HK1.out.below hb2)
    clear hw2 hb2 x1
    obtain ⟨ms, hms⟩ : ∃ ms, ms = w2.heap.size := ⟨_, rfl⟩
    obtain ⟨mv, hmv⟩ : ∃ mv, mv = ms + 1 := ⟨_, rfl⟩
    obtain ⟨bs, hbs⟩ : ∃ bs, bs = ms + 1 + 1 := ⟨_, rfl⟩
    obtain ⟨vs, hvs⟩ : ∃ vs, vs = ms + 1 + 1 + 1 := ⟨_, rfl⟩
    obtain ⟨wb, hwb⟩ : ∃ wb, wb = ms + 1 + 1 + 1 + 1 := ⟨_, rfl⟩
    obtain ⟨w3, hw3⟩ : ∃ w3, w3 = ((((w2.alloc (.map #[] 0)).alloc (.map #[] 0)).alloc (.cells #[.map (some ms)] 106)).alloc (.cells #[.map (some mv)] 106)).alloc (.cells #[.nilFunc] 204) := ⟨_, rfl⟩
    obtain ⟨kwb, hb23, hm4, hb24⟩ := ask_start HS2.out HK2.out hms hmv hbs hvs hwb hw3
    have y1 := kwb.cell
    have y2 := kwb.frozen
    have y3 := kwb.lt
    have HMS := Lib.hid hms; have HMV := Lib.hid hmv; have HBS := Lib.hid hbs; have HVS := Lib.hid hvs; have HWB := Lib.hid hwb; have HW3 := Lib.hid hw3
    have HM4 := Lib.hid hm4; have HB24 := Lib.hid hb24
    clear hms hmv hbs hvs hwb hw3 kwb hb23 hm4 hb24
    go_upto_region 6 with (fail)
    rw [← HMS.out]
    rw [← HWB.out, ← HVS.out, ← HBS.out, ← HMV.out]
    rw [← HW3.out]
    go_upto_region 7 with (fail)
    have hz34 := HM4.out.b4.lt
    obtain ⟨w4, hw4⟩ : ∃ w4, w4 = w3.setCell ⟨wb, 0, none⟩ (askC bs ss vs wb) := ⟨_, rfl⟩
    rw [← hw4] at HM4 HB24 hz34
    have HW4 : Hid (w3.setCell ⟨wb, 0, none⟩ (.func (.func 170) #[] #[.pointer (some ⟨bs, 0, none⟩), .pointer (some ⟨ss, 0, none⟩), .pointer (some ⟨vs, 0, none⟩), .pointer (some ⟨wb, 0, none⟩)]) = w4) := Lib.hid hw4.symm
    clear hw4 y1 y2 y3 hz34
    rw [HW4.out]
    have x4 : w4.cell? ⟨wb, 0, none⟩ = some (askC bs ss vs wb) := HM4.out.b4.cell
    unfold askC at x4
    have hen := call_ask
    have HC := Lib.hid (ask_ok B p bs ss vs wb ms mv S 257 w4 kn _ _ HM4.out HKB.out (by have := HS2.out.wf.v256; omega) (AskInv.start _ _ _))
    go_wp2_with fail
    refine HC.out.mono ?_
    rintro e w5 ⟨rfl, s5, t5, hm5, hp5, ho5⟩
    have HM5 := Lib.hid hm5
    have hlow : Below w2.heap.size w4 w5 := Only.below ho5 (fun i hi _ hf => by have := HMS.out; have := HMV.out; omega) HB24.out.size
    have HB5 := Lib.hid (HB2.out.trans ((HB24.out.trans hlow).mono HB2.out.size))
    have HT5 : Hid (∀ v, t5 v = askB S.l kn v) := Lib.hid (fun v => by rw [hp5.tv]; rfl)
    clear hm5 hp5 ho5 hlow x4 hen
    have x3 : w5.cell? ⟨vs, 0, none⟩ = some (.map (some mv)) := HM5.out.b3.cell
    obtain ⟨D, hown, hsz, hhas⟩ := has_set HM5.out.vr
    have hsz2 : Maps.size D ≤ 1048576 := by rw [hsz]; have := cntS_le t5 256; omega
    have HSK := Lib.hid (sorted_keys w5 mv _ hown hsz2)
    have HEQ : Hid (∀ l : List Int, (l.Perm (intKeys D) ∧ ∀ x, x ∈ l ↔ Maps.has D (.int .i64 x) = true) → (l.mergeSort fun x y => decide (x ≤ y)) = nZ (asksL S kn) ∧ l.length = (asksL S kn).length) := Lib.hid (fun l hl => by
      have hr := nZ_rise (asksL_rise S kn)
      have hm : ∀ x, x ∈ nZ (asksL S kn) ↔ Maps.has D (.int .i64 x) = true := fun x => by rw [hhas x]; exact asks_keys HS2.out.wf HKB.out HT5.out x
      have h1 := keys_sorted hown hl.1 hm hr
      refine ⟨h1, ?_⟩
      have h2 := List.length_mergeSort (le := fun x y : Int => decide (x ≤ y)) l
      rw [h1] at h2
      rw [← h2]
      unfold nZ
      rw [List.length_map])
    clear hown hsz hhas hsz2
    go_wp2_with fail
    refine (keys_ok mv w5).mono ?_
    rintro e w6 ⟨rfl, rfl⟩
    go_wp2_with fail
    refine HSK.out.mono ?_
    rintro e w7 ⟨v, ls, rfl, hS, hrow, hb7⟩
    obtain ⟨h1, h2⟩ := HEQ.out ls hS
    rw [h1, h2] at hrow
    have HR := Lib.hid (own_base hrow HB5.out.size)
    have HB7 := Lib.hid (HB5.out.trans (hb7.mono HB5.out.size))
    clear hS hrow hb7 h1 h2 x3
    go_wp2_with fail
    go_ret2
    exact ⟨HB7.out, .inr ⟨HK.out, v, rfl, by rw [Int.toNat_natCast]; exact HR.out⟩⟩
end Go.Proofs.YtobhjkfkdkiigaaGreatDoor

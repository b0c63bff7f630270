/- The contract of Put (layer 2). -/
import Derived.Test.YtdalnhhenahcjaaHashC
namespace Go.Proofs.Ytdalnhhenahcjaa
open Go.RowKit HP

def PutFull (M : Key → Option Int) (n : Nat) (c : Key) : Prop := M c = none ∧ 1048576 ≤ n
def PutPost (p g : Nat) (M : Key → Option Int) (n : Nat) (c : Key) (v : Int) (w : World) (e : Ending) (w' : World) : Prop :=
  ∃ g', Only (fun i => i = p ∨ i = g) w w' ∧ (g' = g ∨ w.heap.size ≤ g') ∧
    ((PutFull M n c ∧ e = .returned (.int .i64 2) ∧ HashAt w' p g' M n) ∨
     (¬ PutFull M n c ∧ e = .returned (.int .i64 0) ∧ HashAt w' p g' (setK M c (some v)) (if (M c).isSome then n else n + 1)))

/-- the world behind Put's stores of len and used -/
theorem HashIn.put {w : World} {p g j u : Nat} {L : Nat → Pl} {M : Key → Option Int} {n : Nat} (h : HashIn w p g j u L M n) (hr : u + 1 < 2 ^ j) {c : Key} {k : Nat} {b : Bool} (hf : HP.Found (st (2 ^ j)) L (2 ^ j) c k b) (v : Int) (n' u' : Nat)
    (hn' : n' = n + (!b).toNat) (hu' : u' = u + (if (L k).how = 0 then 1 else 0)) (hm : n' ≤ 1048576) {w' : World} (ht : Blk w' p 54 #[.slice (some ⟨g, 0, none⟩) (2 ^ j) (2 ^ j), .int .i64 (n' : Int), .int .i64 (u' : Int)])
    (hg : w'.heap[g]? = w.heap[g]?) : HashIn (storePl w' g k ⟨1, c, v⟩) p g j u' (upd L k ⟨1, c, v⟩) (setK M c (some v)) n' := by
  refine { ne := h.ne, lo := h.lo, hi := h.hi, tab := (storePl_block _ _ _ _ _ h.ne).trans ht, pls := (h.pls.keep hg).store hf.lt _, inv := hf.put h.inv v, rep := hf.rep h.inv h.rep v, cf := ?_, ct := ?_, lt := ?_, most := hm }
  · rw [cnt_full_put hf, h.cf, hn']
  · rw [cnt_taken_put hf, h.ct, hu']
  · rw [hu']; split <;> omega

theorem HashIn.drew_ {w : World} {p g j u : Nat} {L : Nat → Pl} {M : Key → Option Int} {n : Nat} (h : HashIn w p g j u L M n) : HashIn w.drew p g j u L M n := h.keep rfl rfl

set_option maxRecDepth 100000 in
set_option maxHeartbeats 4000000 in
theorem put_ok (w : World) (p g : Nat) (M : Key → Option Int) (n : Nat) (c : Key) (v : Int) (h : HashAt w p g M n) :
    Calls Try.prog 17 #[.pointer (some ⟨p, 0, none⟩), .agg #[.int .i64 c.1, .int .i64 c.2.1, .int .i64 c.2.2], .int .i64 v] w (PutPost p g M n c v w) := by
  have hplt0 := h.lts.1
  have hglt0 := h.lts.2
  have hpg0 := h.ne
  have H := Lib.hid h; clear h
  go_enter Try.func17, Try.ntmps17
  go_wp2_with fail
  have hal : HashAt _ p g M n := H.out.below ((Below.refl w.heap.size w).alloc (Nat.le_refl _) (.cells #[.int .i64 c.1, .int .i64 c.2.1, .int .i64 c.2.2] 26))
  refine hal.given_.mono ?_
  rintro e w' ⟨rfl, rfl⟩
  have HA := Lib.hid hal; clear hal
  go_wp2_with fail
  refine (grows_ok _ p g M n HA.out).mono ?_
  rintro e w1 ⟨g', rfl, ⟨j, u, L, h1, hr⟩, ho1, hg'⟩
  have hbk : Blk w1 w.heap.size 26 #[.int .i64 c.1, .int .i64 c.2.1, .int .i64 c.2.2] := (Blk.new_ w _ _).only ho1 (by omega)
  have hk0 := hbk.cell 0
  have hk1 := hbk.cell 1
  have hk2 := hbk.cell 2
  simp only [List.getElem?_toArray, List.getElem?_cons_zero, List.getElem?_cons_succ] at hk0 hk1 hk2
  have hklt := hbk.lt
  have hN := pow_lo j h1.lo
  have hN2 := pow_hi j h1.hi
  have H1 := Lib.hid h1; have HB := Lib.hid hbk; have HO := Lib.hid ho1; have HR := Lib.hid hr; have HG := Lib.hid hg'
  clear h1 hbk ho1 hr hg'
  go_wp2_with fail
  refine (find_ok p g' (2 ^ j) j _ _ L c _ rfl H1.out.hi hN H1.out.tab H1.out.pls H1.out.inv (empty_of (by rw [H1.out.ct]; exact H1.out.lt))).mono ?_
  rintro e w2 ⟨k, b, rfl, hf, hb2⟩
  have h2 := H1.out.below hb2
  have hbk := HB.out.below hb2 hklt
  have hk0 := hbk.cell 0
  have hk1 := hbk.cell 1
  have hk2 := hbk.cell 2
  have hp0 := h2.tab.cell 0
  have hp1 := h2.tab.cell 1
  have hp2 := h2.tab.cell 2
  have hf1 := h2.tab.frozen 1
  have hf2 := h2.tab.frozen 2
  have hplt := h2.tab.lt
  have hglt := h2.pls.lt
  have hne := h2.ne
  have hkl := hf.lt
  have hklt := hbk.lt
  obtain ⟨x0, x1, x2, x3, x4⟩ := h2.pls.at_ hkl
  have f0 := h2.pls.frozen (k * 5)
  have f1 := h2.pls.frozen (k * 5 + 1)
  have f2 := h2.pls.frozen (k * 5 + 2)
  have f3 := h2.pls.frozen (k * 5 + 3)
  have f4 := h2.pls.frozen (k * 5 + 4)
  have hnm := h2.most
  have hum := h2.lt
  simp only [List.getElem?_toArray, List.getElem?_cons_zero, List.getElem?_cons_succ] at hk0 hk1 hk2 hp0 hp1 hp2
  have hO2 : Only (fun i => i = p ∨ i = g) w w2 := by
    refine ((Only.refl _ w).alloc _).trans ((HO.out.trans (Only.of_below (F := fun _ => False) hb2 (fun q hq hq2 => by omega)) (fun _ _ h => h.elim))) (fun i _ h => .inl h)
  have HF := Lib.hid hf; have H2 := Lib.hid h2; have HO2 := Lib.hid hO2
  clear hf h2 hbk hb2 hO2
  have hgne : w.heap.size ≠ g' := by
    intro e
    have h5 := HB.out
    obtain ⟨cs, h6, _⟩ := H1.out.pls
    rw [← e] at h6
    unfold Blk at h5 h6
    rw [h5] at h6
    injection h6 with h6
    injection h6 with _ h6
    exact absurd h6 (by decide)
  have HG' : Hid (g' = g ∨ w.heap.size ≤ g') := by
    rcases HG.out with h | h
    · exact .inl h
    · refine .inr ?_
      simp at h; omega
  clear hnm
  cases b
  · by_cases hfull : 1048576 ≤ n
    · have HP1 : Hid (PutFull M n c) := ⟨(HF.out.has H2.out.rep).2 rfl, hfull⟩
      have hfI : decide ((1048576 : Int) ≤ (n : Int)) = true := decide_eq_true (by omega)
      clear hfull
      go_wp2
      go_ret
      exact ⟨g', HO2.out, HG'.out, .inl ⟨HP1.out, rfl, j, u, L, H2.out⟩⟩
    · have HP1 : Hid (¬ PutFull M n c) := fun h => hfull h.2
      have hne1 := (HF.out.no rfl).2.1
      have hfI : decide ((1048576 : Int) ≤ (n : Int)) = false := decide_eq_false (by omega)
      have hnB : n ≤ 1048576 := by omega
      have HNF : Hid (n + 1 ≤ 1048576) := by unfold Hid; omega
      clear hfull
      have hMn := Lib.hid ((HF.out.has H2.out.rep).2 rfl)
      have e1 : (((n + 1 : Nat)) : Int) = (n : Int) + 1 := by omega
      have E1 := Lib.hid e1; clear e1
      have HgP : Hid (∀ (w' : World), Only (fun i => i = p) w2 w' → Only (fun i => i = p ∨ i = g) w (storePl w' g' k ⟨1, c, v⟩)) := by
        intro w' h
        refine (HO2.out.trans (h.mono (G := fun i => i = p) (fun _ _ h => h)) (fun i _ h => .inl h)).trans (storePl_only w' g' k _) (fun i hi h => ?_)
        subst h
        rcases HG'.out with h5 | h5
        · exact .inr h5
        · omega
      by_cases h0 : (L k).how = 0
      · have HH := Lib.hid h0
        go_wp2
        go_region
        go_wp2
        go_ret
        have t := (H2.out.tab.set_ 1 (.int .i64 ((n : Int) + 1))).set_ 2 (.int .i64 ((u : Int) + 1))
        simp at t
        refine ⟨g', Only.drew (HgP.out _ ?_), HG'.out, .inr ⟨HP1.out, rfl, j, u + 1, upd L k ⟨1, c, v⟩, ?_⟩⟩
        · exact Only.setCell (F := fun q => q = p) (p := ⟨p, 2, none⟩) (Only.setCell (F := fun q => q = p) (p := ⟨p, 1, none⟩) (Only.refl _ _) (fun _ => rfl) _) (fun _ => rfl) _
        · rw [hMn.out]
          refine HashIn.drew_ (H2.out.put HR.out HF.out v (n + 1) (u + 1) rfl (by rw [if_pos HH.out]) HNF.out (by rw [E1.out, show (((u + 1 : Nat)) : Int) = (u : Int) + 1 by omega]; exact t) ?_)
          rw [Below.heap_setCell _ _ _ _ (fun h => hne h.symm), Below.heap_setCell _ _ _ _ (fun h => hne h.symm)]
      · have HH := Lib.hid h0
        go_wp2
        go_region
        go_wp2
        go_ret
        have t := H2.out.tab.set_ 1 (.int .i64 ((n : Int) + 1))
        simp at t
        refine ⟨g', Only.drew (HgP.out _ ?_), HG'.out, .inr ⟨HP1.out, rfl, j, u, upd L k ⟨1, c, v⟩, ?_⟩⟩
        · exact Only.setCell (F := fun q => q = p) (p := ⟨p, 1, none⟩) (Only.refl _ _) (fun _ => rfl) _
        · rw [hMn.out]
          refine HashIn.drew_ (H2.out.put HR.out HF.out v (n + 1) u rfl (by rw [if_neg HH.out]; rfl) HNF.out (by rw [E1.out]; exact t) ?_)
          rw [Below.heap_setCell _ _ _ _ (fun h => hne h.symm)]
  · have hMn := Lib.hid ((HF.out.has H2.out.rep).1 rfl)
    have HP1 : Hid (¬ PutFull M n c) := fun h => by rw [h.1] at hMn; exact nomatch hMn.out
    have hh1 := Lib.hid (HF.out.yes rfl).1
    have hnm := Lib.hid H2.out.most
    go_wp2
    go_region
    go_wp2
    go_ret
    refine ⟨g', Only.drew ?_, HG'.out, .inr ⟨HP1.out, rfl, j, u, upd L k ⟨1, c, v⟩, ?_⟩⟩
    · refine HO2.out.trans (storePl_only w2 g' k ⟨1, c, v⟩) (fun i hi h => ?_)
      subst h
      rcases HG'.out with h5 | h5
      · exact .inr h5
      · omega
    · rw [hMn.out]
      exact HashIn.drew_ (H2.out.put HR.out HF.out v n u rfl (by rw [hh1.out]; rfl) hnm.out H2.out.tab rfl)
end Go.Proofs.Ytdalnhhenahcjaa

/- The contract of grows (layer 2): there is room for one more; the keys are as they were. -/
import Derived.Test.YtdalnhhenahcjaaHashB
import Derived.Deep.RegionHeld3
import Derived.StillTailTactics
namespace Go.Proofs.Ytdalnhhenahcjaa
open Go.RowKit HP

def GrowPost (p g : Nat) (M : Key → Option Int) (n : Nat) (w : World) (e : Ending) (w' : World) : Prop :=
  ∃ g', e = .returned (.tuple #[]) ∧ (∃ j u L, HashIn w' p g' j u L M n ∧ u + 1 < 2 ^ j) ∧ Only (fun i => i = p) w w' ∧ (g' = g ∨ w.heap.size ≤ g')

set_option maxRecDepth 100000 in
set_option maxHeartbeats 1000000 in
theorem grows_stay (w : World) (p g j u : Nat) (L : Nat → Pl) (M : Key → Option Int) (n : Nat) (h : HashIn w p g j u L M n) (hlt : 4 * u < 3 * 2 ^ j) :
    Calls Try.prog 45 #[.pointer (some ⟨p, 0, none⟩)] w (GrowPost p g M n w) := by
  have hN := pow_lo j h.lo
  have hN2 := pow_hi j h.hi
  have hp0 := h.tab.cell 0
  have hp2 := h.tab.cell 2
  have hplt := h.tab.lt
  simp only [List.getElem?_toArray, List.getElem?_cons_zero, List.getElem?_cons_succ] at hp0 hp2
  have H := Lib.hid h; clear h
  obtain ⟨N, hNe⟩ : ∃ N, N = 2 ^ j := ⟨_, rfl⟩
  rw [← hNe] at hp0 hlt hN hN2
  have HNe := Lib.hid hNe; clear hNe
  have hu : u ≤ 4194304 := by omega
  have ht : (4 : Int) * (u : Int) < 3 * (N : Int) := by omega
  go_enter Try.func45, Try.ntmps45
  go_wp2
  go_quiet (fail)
  go_wp2
  refine bodyPost_ret (results_none rfl _ _ _) rfl ?_
  refine ⟨g, rfl, ⟨j, u, L, H.out.keep rfl rfl, ?_⟩, (Only.refl _ _).drewN _, .inl rfl⟩
  rw [← HNe.out]; omega

theorem size_pow (j n N N' : Nat) (h4 : 4 ≤ j) (h22 : j ≤ 22) (hn : n ≤ 1048576) (hN : N = 2 ^ j) (hN' : N' = if N ≤ 2 * n then 2 * N else N) : ∃ j', 4 ≤ j' ∧ j' ≤ 22 ∧ N' = 2 ^ j' := by
  by_cases h : N ≤ 2 * n
  · rw [if_pos h] at hN'
    refine ⟨j + 1, by omega, ?_, by rw [hN', hN, Nat.pow_succ, Nat.mul_comm]⟩
    rcases Nat.lt_or_ge j 22 with h1 | h1
    · omega
    · have := Nat.pow_le_pow_right (n := 2) (by decide) h1
      have e : (2 : Nat) ^ 22 = 4194304 := by decide
      omega
  · rw [if_neg h] at hN'
    exact ⟨j, h4, h22, by rw [hN', hN]⟩
theorem rep_one {L : Nat → Pl} {N : Nat} {M M' : Key → Option Int} (h : Rep L N M) (h' : Rep L N M') : M = M' := by
  funext c
  cases e : M c with
  | none =>
    cases e' : M' c with
    | none => rfl
    | some v => have := (h c v).2 ((h' c v).1 e'); rw [e] at this; cases this
  | some v => exact ((h' c v).2 ((h c v).1 e)).symm

/-- the first i places of the old table have been put into the new one -/
structure Moving (w : World) (p g g' N N' n : Nat) (L : Nat → Pl) (w0 : World) (i : Nat) (L' : Nat → Pl) (Mi : Key → Option Int) : Prop where
  tab : Blk w p 54 #[.slice (some ⟨g', 0, none⟩) N' N', .int .i64 (n : Int), .int .i64 (n : Int)]
  pls : Places w g' N' L'
  old : Places w g N L
  inv : HP.Inv (st N') L' N'
  rep : Rep L' N' Mi
  part : Rep L i Mi
  two : ∀ k, k < N' → (L' k).how ≠ 2
  cf : cntB (full L') N' = cntB (full L) i
  ct : cntB (taken L') N' = cntB (full L) i
  only : Only (fun q => q = p) w0 w
theorem Moving.below {w w' : World} {p g g' N N' n : Nat} {L : Nat → Pl} {w0 : World} {i : Nat} {L' : Nat → Pl} {Mi : Key → Option Int} (h : Moving w p g g' N N' n L w0 i L' Mi) (hb : Below w.heap.size w w') : Moving w' p g g' N N' n L w0 i L' Mi :=
  { h with tab := h.tab.below hb h.tab.lt, pls := h.pls.below hb h.pls.lt, old := h.old.below hb h.old.lt, only := h.only.trans (Only.of_below (F := fun q => q = p) hb (fun q hq hq2 => by omega)) (fun _ _ h => h) }
theorem Moving.skip {w : World} {p g g' N N' n : Nat} {L : Nat → Pl} {w0 : World} {i : Nat} {L' : Nat → Pl} {Mi : Key → Option Int} (h : Moving w p g g' N N' n L w0 i L' Mi) (h1 : (L i).how ≠ 1) : Moving w p g g' N N' n L w0 (i + 1) L' Mi :=
  { h with part := Part.skip h.part h1, cf := by rw [h.cf]; simp [cntB, full, h1], ct := by rw [h.ct]; simp [cntB, full, h1] }
theorem Moving.more {w : World} {p g g' N N' n : Nat} {L : Nat → Pl} {w0 : World} {i : Nat} {L' : Nat → Pl} {Mi : Key → Option Int} (h : Moving w p g g' N N' n L w0 i L' Mi) (hI : ∀ a b, a < N → b < N → (L a).how = 1 → (L b).how = 1 → (L a).key = (L b).key → a = b)
    (hi : i < N) (h1 : (L i).how = 1) {k : Nat} {b : Bool} (hf : HP.Found (st N') L' N' (L i).key k b) (hpg : p ≠ g') (hgg : g ≠ g') (hg0 : w0.heap.size ≤ g') (x : Pl) (hx : x = ⟨1, (L i).key, (L i).v⟩) :
    Moving (storePl w g' k x) p g g' N N' n L w0 (i + 1) (upd L' k x) (setK Mi (L i).key (some (L i).v)) := by
  have hfresh : Mi (L i).key = none := by
    cases hM : Mi (L i).key with
    | none => rfl
    | some v =>
      obtain ⟨a, ha, h2, h3, _⟩ := (h.part _ v).1 hM
      have := hI a i (by omega) hi h2 h1 h3
      omega
  have hb : b = false := by
    cases b with
    | false => rfl
    | true => have := (hf.has h.rep).1 rfl; rw [hfresh] at this; cases this
  subst hb hx
  have h0 : (L' k).how = 0 := by
    have h2 := h.inv.kinds k hf.lt
    have h3 := h.two k hf.lt
    have h4 := (hf.no rfl).2.1
    omega
  refine { tab := (storePl_block _ _ _ _ _ hpg).trans h.tab, pls := h.pls.store hf.lt _, old := h.old.keep (storePl_block _ _ _ _ _ hgg), inv := hf.put h.inv _, rep := hf.rep h.inv h.rep _, part := ?_, two := ?_, cf := ?_, ct := ?_, only := h.only.trans (storePl_only w g' k _) (fun q hq hq2 => by omega) }
  · intro c v
    unfold setK
    by_cases e : c = (L i).key
    · rw [if_pos e]
      constructor
      · intro e2; injection e2 with e2; exact ⟨i, by omega, h1, e.symm, e2⟩
      · rintro ⟨a, ha, h2, h3, h4⟩
        have := hI a i (by omega) hi h2 h1 (by rw [h3, e])
        subst this; rw [h4]
    · rw [if_neg e, h.part c v]
      constructor
      · rintro ⟨a, ha, r⟩; exact ⟨a, by omega, r⟩
      · rintro ⟨a, ha, r⟩
        exact ⟨a, by
          rcases Nat.lt_or_ge a i with h2 | h2
          · exact h2
          · have : a = i := by omega
            subst this; exact absurd r.2.1.symm e, r⟩
  · intro q hq
    by_cases e : q = k
    · subst e; rw [upd_same]; show (1 : Int) ≠ 2; decide
    · rw [upd_other _ _ _ _ e]; exact h.two q hq
  · rw [cnt_full_put hf, h.cf]; simp [cntB, full, h1]
  · rw [cnt_taken_put hf, h.ct, if_pos h0]; simp [cntB, full, h1]

set_option maxRecDepth 100000 in
set_option maxHeartbeats 1000000 in
theorem grows_move (w : World) (p g j u : Nat) (L : Nat → Pl) (M : Key → Option Int) (n : Nat) (h : HashIn w p g j u L M n) (hlt : ¬ 4 * u < 3 * 2 ^ j) :
    Calls Try.prog 45 #[.pointer (some ⟨p, 0, none⟩)] w (GrowPost p g M n w) := by
  have hN := pow_lo j h.lo
  have hN2 := pow_hi j h.hi
  have hp0 := h.tab.cell 0
  have hp1 := h.tab.cell 1
  have hp2 := h.tab.cell 2
  have hf0 := h.tab.frozen 0
  have hf1 := h.tab.frozen 1
  have hf2 := h.tab.frozen 2
  have hplt := h.tab.lt
  simp only [List.getElem?_toArray, List.getElem?_cons_zero, List.getElem?_cons_succ] at hp0 hp1 hp2
  have hnu : n ≤ u := by have := full_le_taken L (2 ^ j); have := h.cf; have := h.ct; omega
  have hul := h.lt
  have H := Lib.hid h; clear h
  obtain ⟨N, hNe⟩ : ∃ N, N = 2 ^ j := ⟨_, rfl⟩
  rw [← hNe] at hp0 hlt hN hN2 hul
  have HNe := Lib.hid hNe; clear hNe
  have ht : ¬ (4 : Int) * (u : Int) < 3 * (N : Int) := by omega
  obtain ⟨i0, hi, hz, h1, h2⟩ := info_parts place_info
  have hmk := fun (n : Nat) (hn : n ≤ 4194304) (w : World) => run_make_n (P := Try.prog) 52 96 i0 _ 5 40 Try.underlying52 hi hz h1 h2 .i64 .i64 n n (by omega) (by omega) (by omega) w
  have HMK := Lib.hid hmk; clear hmk hi hz h1 h2
  go_enter Try.func45, Try.ntmps45
  go_wp2
  go_quiet (fail)
  go_upto_if 32 with (fail)
  go_cut [3] (fun s3 wc => wc = w.drewN nq ∧ ∃ N' : Nat, s3 = .int .i64 (N' : Int) ∧ N' ≤ 4194304 ∧ 16 ≤ N' ∧ n + 1 < N' ∧ Hid (N' = if N ≤ 2 * n then 2 * N else N))
  case first =>
    go_wp2
    · go_meet
      case rel => exact ⟨rfl, 2 * N, by go_num, by have := H.out.most; omega, by omega, by omega, by unfold Hid; rw [if_pos (by omega)]⟩
    · go_meet
      case rel => exact ⟨rfl, N, rfl, by omega, by omega, by omega, by unfold Hid; rw [if_neg (by omega)]⟩
  case rest =>
    obtain ⟨rfl, N', rfl, hN'1, hN'2, hnN', HN'⟩ := hcut
    have hmk := HMK.out N' hN'1
    clear ht
    generalize hw2 : w.drewN nq = w2
    have HP : Hid (HashIn w2 p g j u L M n) := by rw [← hw2]; exact H.out.keep rfl rfl
    have HO : Hid (Only (fun i => i = p) w w2) := by rw [← hw2]; exact (Only.refl _ _).drewN _
    have hsz : w2.heap.size = w.heap.size := by rw [← hw2]; rfl
    have HSZ := Lib.hid hsz
    have hp0 := HP.out.tab.cell 0
    have hp1 := HP.out.tab.cell 1
    have hp2 := HP.out.tab.cell 2
    have hf0 := HP.out.tab.frozen 0
    have hf1 := HP.out.tab.frozen 1
    have hf2 := HP.out.tab.frozen 2
    have hplt := HP.out.tab.lt
    simp only [List.getElem?_toArray, List.getElem?_cons_zero, List.getElem?_cons_succ] at hp0 hp1 hp2
    rw [← HNe.out] at hp0
    clear hw2 hsz
    obtain ⟨j', hj1, hj2, hj3⟩ := size_pow j n N N' H.out.lo H.out.hi H.out.most HNe.out HN'.out
    have HJ := Lib.hid hj3; clear hj3
    have hpg : p ≠ w2.heap.size := by omega
    have hgg : g ≠ w2.heap.size := by have := HP.out.pls.lt; omega
    have HM0 : Hid (Moving ((((w2.setCell ⟨p, 0, none⟩ (.slice (some ⟨w2.heap.size, 0, none⟩) N' N')).setCell ⟨p, 2, none⟩ (.int .i64 (n : Int))).alloc (.cells (madeCells places0 (N' * 5)) 96)).drew) p g w2.heap.size N N' n L w 0 (fun _ => noPl) (fun _ => none)) := by
      have t := ((HP.out.tab.set_ 0 (.slice (some ⟨w2.heap.size, 0, none⟩) N' N')).set_ 2 (.int .i64 (n : Int))).alloc_ (.cells (madeCells places0 (N' * 5)) 96)
      have hg := Blk.new_ ((w2.setCell ⟨p, 0, none⟩ (.slice (some ⟨w2.heap.size, 0, none⟩) N' N')).setCell ⟨p, 2, none⟩ (.int .i64 (n : Int))) 96 (madeCells places0 (N' * 5))
      simp only [World.size_setCell] at hg
      simp at t
      have hgl := HP.out.pls.lt
      have hpn := HP.out.ne
      refine { tab := t.drew_, pls := Places.made hg.drew_, old := ?_, inv := Inv.new _ (fun _ _ => rfl), rep := Rep.new (fun _ _ => rfl), part := Rep.new (fun _ h => by omega), two := fun _ _ => by decide, cf := cntB_zero (fun _ _ => rfl), ct := cntB_zero (fun _ _ => rfl), only := ?_ }
      · have ho := HP.out.pls
        rw [← HNe.out] at ho
        refine ho.keep ?_
        refine (Below.heap_alloc _ _ _ (by simpa using hgl)).trans ?_
        rw [Below.heap_setCell _ _ _ _ (fun h => hpn h.symm), Below.heap_setCell _ _ _ _ (fun h => hpn h.symm)]
      · refine HO.out.trans (Only.drew (Only.alloc ?_ _)) (fun _ _ h => h)
        exact Only.setCell (F := fun q => q = p) (p := ⟨p, 2, none⟩) (Only.setCell (F := fun q => q = p) (p := ⟨p, 0, none⟩) (Only.refl _ _) (fun _ => rfl) _) (fun _ => rfl) _
    go_wp2_with fail
    go_region
    go_wp2_with fail
    go_loopg [49] N (fun m x wr => ∃ i : Nat, m + i = N ∧ x = .int .i64 (i : Int) ∧ ∃ L' Mi, Moving wr p g w2.heap.size N N' n L w i L' Mi)
    case atStart => exact ⟨0, rfl, rfl, _, _, HM0.out⟩
    case round =>
      obtain ⟨i, hmi, rfl, L', Mi, hM⟩ := hrel
      have HMI := Lib.hid hmi; clear hmi
      have HM := Lib.hid hM; clear hM
      by_cases hiN : i < N
      · obtain ⟨q0, q1, q2, q3, q4⟩ := HM.out.old.at_ hiN
        by_cases h1 : (L i).how = 1
        · have H1 := Lib.hid h1
          go_wp2_with fail
          have hal := HM.out.below ((Below.refl wr.heap.size wr).alloc (Nat.le_refl _) (.cells #[.int .i64 1, .int .i64 (L i).key.1, .int .i64 (L i).key.2.1, .int .i64 (L i).key.2.2, .int .i64 (L i).v] 96))
          have hlb := Blk.new_ wr 96 #[.int .i64 1, .int .i64 (L i).key.1, .int .i64 (L i).key.2.1, .int .i64 (L i).key.2.2, .int .i64 (L i).v]
          have HA := Lib.hid hal; clear hal
          have HLB := Lib.hid hlb; clear hlb
          refine (find_ok p w2.heap.size N' j' _ _ L' (L i).key _ HJ.out hj2 hN'2 HA.out.tab HA.out.pls HA.out.inv (empty_of ?_)).mono ?_
          · rw [HA.out.ct]
            have h5 : cntB (full L) i ≤ cntB (full L) N := cntB_le_le (by omega)
            have h6 := H.out.cf
            rw [← HNe.out] at h6
            omega
          rintro e w3 ⟨k, b, rfl, hf, hb3⟩
          have hkl := hf.lt
          have h3 := HA.out.below hb3
          have hlb := HLB.out.below hb3 (by simp)
          have hp0 := h3.tab.cell 0
          have hplt := h3.tab.lt
          have hglt := h3.pls.lt
          have hl0 := hlb.cell 0
          have hl1 := hlb.cell 1
          have hl2 := hlb.cell 2
          have hl3 := hlb.cell 3
          have hl4 := hlb.cell 4
          have hllt := hlb.lt
          obtain ⟨x0, x1, x2, x3, x4⟩ := h3.pls.at_ hkl
          have f0 := h3.pls.frozen (k * 5)
          have f1 := h3.pls.frozen (k * 5 + 1)
          have f2 := h3.pls.frozen (k * 5 + 2)
          have f3 := h3.pls.frozen (k * 5 + 3)
          have f4 := h3.pls.frozen (k * 5 + 4)
          simp only [List.getElem?_toArray, List.getElem?_cons_zero, List.getElem?_cons_succ] at hp0 hl0 hl1 hl2 hl3 hl4
          have hmr := Lib.hid (h3.more (fun a b ha hb => H.out.inv.once a b (by rw [← HNe.out]; exact ha) (by rw [← HNe.out]; exact hb)) hiN H1.out hf hpg hgg (by rw [HSZ.out]; exact Nat.le_refl _) ⟨1, (L i).key, (L i).v⟩ rfl)
          clear hf h3 hlb hb3 q0 q1 q2 q3 q4
          clear hp1 hp2 hf0 hf1 hf2 hmk h1
          go_wp2_with fail
          go_region
          go_wp2_with fail
          go_roundg (N - (i + 1))
          case measure => have := HMI.out; omega
          case rel => exact ⟨i + 1, by omega, by go_num, _, _, hmr.out.below ((Below.refl _ _).drew)⟩
        · have hal := Lib.hid ((HM.out.skip h1).below ((Below.refl wr.heap.size wr).alloc (Nat.le_refl _) (.cells #[.int .i64 (L i).how, .int .i64 (L i).key.1, .int .i64 (L i).key.2.1, .int .i64 (L i).key.2.2, .int .i64 (L i).v] 96)))
          clear hp1 hp2 hf0 hf1 hf2 hmk
          go_wp2_with fail
          go_roundg (N - (i + 1))
          case measure => have := HMI.out; omega
          case rel => exact ⟨i + 1, by omega, by go_num, _, _, hal.out⟩
      · have hiN' : N ≤ i := by have := HMI.out; omega
        have HIN : Hid (i = N) := by have := HMI.out; unfold Hid; omega
        clear hp1 hp2 hf0 hf1 hf2 hmk
        go_wp2_with fail
        refine bodyPost_ret (results_none rfl _ _ _) rfl ?_
        have hM := HM.out
        rw [HIN.out] at hM
        have hrl := H.out.rep
        have hcf := H.out.cf
        rw [← HNe.out] at hrl hcf
        have hMe := rep_one hM.part hrl
        have hr2 := hM.rep
        rw [hMe] at hr2
        have e2 : n < N' := by omega
        refine ⟨w2.heap.size, rfl, ⟨j', n, L', ?_, by rw [← HJ.out]; omega⟩, hM.only, .inr (by rw [HSZ.out]; exact Nat.le_refl _)⟩
        have hJ := HJ.out
        subst hJ
        exact { ne := hpg, lo := hj1, hi := hj2, tab := hM.tab, pls := hM.pls, inv := hM.inv, rep := hr2, cf := hM.cf.trans hcf, ct := hM.ct.trans hcf, lt := e2, most := H.out.most }

theorem grows_ok (w : World) (p g : Nat) (M : Key → Option Int) (n : Nat) (h : HashAt w p g M n) : Calls Try.prog 45 #[.pointer (some ⟨p, 0, none⟩)] w (GrowPost p g M n w) := by
  obtain ⟨j, u, L, h⟩ := h
  by_cases hlt : 4 * u < 3 * 2 ^ j
  · exact grows_stay w p g j u L M n h hlt
  · exact grows_move w p g j u L M n h hlt
end Go.Proofs.Ytdalnhhenahcjaa

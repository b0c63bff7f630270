/- CompComps's walk and CompMembers's. -/
import Derived.Test.YtbancojknahdgaaCompY
namespace Go.Proofs.Ytbancojknahdgaa
open Go.RowKit CP
noncomputable def compsL (n : Int) (es : List (Int × Int)) : List Int := if mayG n es then (List.range n.toNat).map (fun v => (cmp n.toNat (natE es) v : Int)) else []
def compsE (n : Int) (es : List (Int × Int)) : Int := if mayG n es then 0 else 1
noncomputable def reachsL (n : Int) (es : List (Int × Int)) (fr : Int) : List Int := if okR n es fr then (reachL n.toNat (natE es) fr.toNat).map (fun v : Nat => (v : Int)) else []
def reachsE (n : Int) (es : List (Int × Int)) (fr : Int) : Int := if okR n es fr then 0 else 1
theorem may_len {n : Int} {es : List (Int × Int)} (h : mayG n es = true) : n.toNat ≤ 1024 := by unfold mayG at h; simp at h; omega
theorem compsL_len (n : Int) (es : List (Int × Int)) : (compsL n es).length ≤ 1024 := by
  unfold compsL
  split
  · rename_i h; have := may_len h; simp; omega
  · exact Nat.zero_le _
theorem reachsL_len (n : Int) (es : List (Int × Int)) (fr : Int) : (reachsL n es fr).length ≤ 1024 := by
  unfold reachsL
  split
  · rename_i h
    have h1 : mayG n es = true := by unfold okR at h; simp at h; exact h.1.1
    have := may_len h1
    have h2 := reachL_len n.toNat (natE es) fr.toNat
    rw [List.length_map]; omega
  · exact Nat.zero_le _
/-- an answer of a list and a number -/
def Gives (w : World) (l : List Int) (er : Int) (e : Ending) (w' : World) : Prop :=
  Below w.heap.size w w' ∧ ∃ a c, e = .returned (.tuple #[.slice a l.length c, .int .i64 er]) ∧ Cells w' a (zV l)
theorem CompsPost.gives {w w' : World} {n : Int} {es : List (Int × Int)} {e : Ending} (h : CompsPost w n es e w') : Gives w (compsL n es) (compsE n es) e w' := by
  obtain ⟨hb, ⟨h1, rfl⟩ | ⟨h1, y, rfl, hr⟩⟩ := h
  · exact ⟨hb, none, 0, by unfold compsL compsE; rw [h1]; rfl, by unfold compsL; rw [h1]; exact Cells.nil _ _⟩
  · obtain ⟨a, c, rfl, _, _, hc⟩ := Cells.of_own hr
    refine ⟨hb, a, c, ?_, ?_⟩
    · unfold compsL compsE; rw [h1]; simp
    · unfold compsL; rw [h1]
      rw [iV_z, List.map_map] at hc; exact hc
theorem RCompsPost.gives {w w' : World} {n : Int} {es : List (Int × Int)} {e : Ending} (h : RCompsPost w n es e w') : Gives w (compsL n es) (compsE n es) e w' := CompsPost.gives h
theorem ReachPost.gives {w w' : World} {n : Int} {es : List (Int × Int)} {fr : Int} {e : Ending} (h : ReachPost w n es fr e w') : Gives w (reachsL n es fr) (reachsE n es fr) e w' := by
  obtain ⟨hb, ⟨h1, rfl⟩ | ⟨h1, y, rfl, hr⟩⟩ := h
  · exact ⟨hb, none, 0, by unfold reachsL reachsE; rw [h1]; rfl, by unfold reachsL; rw [h1]; exact Cells.nil _ _⟩
  · obtain ⟨a, c, rfl, _, _, hc⟩ := Cells.of_own hr
    refine ⟨hb, a, c, ?_, ?_⟩
    · unfold reachsL reachsE; rw [h1]; simp
    · unfold reachsL; rw [h1]
      rw [iV_z] at hc; exact hc
set_option maxRecDepth 100000 in
set_option maxHeartbeats 6400000 in
theorem compComps_walk (w : World) (n : Int) (_zw : (Lit.int .i64 n).wf = true) (ea : Option Addr) (c : Nat) (es : List (Int × Int)) (hlc : es.length ≤ c) (hmc : c ≤ maxLen) (hc0 : Cells w ea (es.flatMap pairCells)) (_wf : ∀ y ∈ es, wfI y.1 ∧ wfI y.2) (fr : Int) (_fw : (Lit.int .i64 fr).wf = true) :
    Calls Try.prog 10 #[.int .i64 n, .slice ea es.length c, .int .i64 fr] w (FineC w) := by
  have HC1 : Hid (∀ w', Cells w' ea (es.flatMap pairCells) → Calls Try.prog 29 #[.int .i64 n, .slice ea es.length c] w' (Gives w' (compsL n es) (compsE n es))) := Lib.hid (fun w' h => (comps_ok w' n ea es c (by omega) h).mono fun _ _ k => CompsPost.gives k)
  have HC2 : Hid (∀ w', Cells w' ea (es.flatMap pairCells) → Calls Try.prog 30 #[.int .i64 n, .slice ea es.length c] w' (Gives w' (compsL n es) (compsE n es))) := Lib.hid (fun w' h => (rcomps_ok w' n ea es c (by omega) h).mono fun _ _ k => RCompsPost.gives k)
  have HC3 : Hid (∀ w', Cells w' ea (es.flatMap pairCells) → Calls Try.prog 31 #[.int .i64 n, .slice ea es.length c, .int .i64 fr] w' (Gives w' (reachsL n es fr) (reachsE n es fr))) := Lib.hid (fun w' h => (reach_ok w' n ea es c fr (by omega) h).mono fun _ _ k => ReachPost.gives k)
  have HC4 : Hid (∀ w', Cells w' ea (es.flatMap pairCells) → Calls Try.prog 32 #[.int .i64 n, .slice ea es.length c, .int .i64 fr] w' (Gives w' (reachsL n es fr) (reachsE n es fr))) := Lib.hid (fun w' h => (rreach_ok w' n ea es c fr (by omega) h).mono fun _ _ k => ReachPost.gives k)
  have hl1 := compsL_len n es
  have hl2 := reachsL_len n es fr
  have HC := Lib.hid hc0
  obtain ⟨N, hN⟩ : ∃ N, es.length = N := ⟨_, rfl⟩
  rw [hN] at HC1 HC2 HC3 HC4 ⊢
  obtain ⟨L, hL⟩ : ∃ L, compsL n es = L := ⟨_, rfl⟩
  obtain ⟨x1, hx1⟩ : ∃ x, compsE n es = x := ⟨_, rfl⟩
  obtain ⟨M, hM⟩ : ∃ L, reachsL n es fr = L := ⟨_, rfl⟩
  obtain ⟨x2, hx2⟩ : ∃ x, reachsE n es fr = x := ⟨_, rfl⟩
  rw [hL, hx1] at HC1 HC2
  rw [hM, hx2] at HC3 HC4
  rw [hL] at hl1
  rw [hM] at hl2
  clear hc0 hN hlc hmc hL hx1 hM hx2
  by_cases h1 : 200 < N
  · go_enter Try.func10, Try.ntmps10
    go_wp2_with fail
    refine (awake19 w).mono ?_
    rintro e w9 ⟨rfl, hb9⟩
    have HB := Lib.hid hb9
    clear hb9
    go_wp2_with fail
    go_ret
    exact ⟨rfl, HB.out⟩
  by_cases h2 : 40 < n ∧ n ≤ 1024
  · obtain ⟨h2, h3⟩ := h2
    go_enter Try.func10, Try.ntmps10
    go_wp2_with fail
    refine (awake19 w).mono ?_
    rintro e w9 ⟨rfl, hb9⟩
    have HB := Lib.hid hb9
    clear hb9
    go_wp2_with fail
    go_ret
    exact ⟨rfl, HB.out⟩
  have main : ∀ b : Bool, decide (40 < n) = b → (b = true → decide (n ≤ 1024) = false) → Calls Try.prog 10 #[.int .i64 n, .slice ea N c, .int .i64 fr] w (FineC w) := by
    intro b hb1 hb2
    cases b
    all_goals
      first | replace hb2 := hb2 rfl | clear hb2
      clear h2
      go_enter Try.func10, Try.ntmps10
      go_wp2_with fail
      refine (HC1.out w HC.out).mono ?_
      rintro e w1 ⟨hk1, a1, c1, rfl, hx1⟩
      have HB1 := Lib.hid hk1; have HX1 := Lib.hid hx1
      clear hk1 hx1
      go_wp2_with fail
      refine (HC2.out w1 (HC.out.below HB1.out)).mono ?_
      rintro e w2 ⟨hk2, a2, c2, rfl, hx2⟩
      have HB2 := Lib.hid (HB1.out.trans (hk2.mono HB1.out.size)); have HX2 := Lib.hid hx2; have HY1 := Lib.hid (HX1.out.below hk2)
      clear hk2 hx2
      go_wp2_with fail
      refine (HC3.out w2 (HC.out.below HB2.out)).mono ?_
      rintro e w3 ⟨hk3, a3, c3, rfl, hx3⟩
      have HB3 := Lib.hid (HB2.out.trans (hk3.mono HB2.out.size)); have HX3 := Lib.hid hx3; have HY2 := Lib.hid (HX2.out.below hk3); have HZ1 := Lib.hid (HY1.out.below hk3)
      clear hk3 hx3
      go_wp2_with fail
      refine (HC4.out w3 (HC.out.below HB3.out)).mono ?_
      rintro e w4 ⟨hk4, a4, c4, rfl, hx4⟩
      have HB4 := Lib.hid (HB3.out.trans (hk4.mono HB3.out.size))
      have HS1 := Lib.hid (sameInts_ok w4 a1 a2 c1 c2 L L (by unfold maxLen; omega) (HZ1.out.below hk4) (HY2.out.below hk4))
      have HS2 : Hid (∀ w', Below w4.heap.size w4 w' → Calls Try.prog 23 #[.slice a3 M.length c3, .slice a4 M.length c4] w' (Tells (M == M) w')) := Lib.hid (fun w' h => sameInts_ok w' a3 a4 c3 c4 M M (by unfold maxLen; omega) ((HX3.out.below hk4).below h) (hx4.below h))
      rw [beq_iff_eq.2 (rfl : L = L)] at HS1
      rw [beq_iff_eq.2 (rfl : M = M)] at HS2
      clear hk4 hx4 HX1 HX2 HX3 HY1 HY2 HZ1 HB1 HB2 HB3 HC1 HC2 HC3 HC4
      go_wp2_with fail
      refine HS1.out.mono ?_
      rintro e w5 ⟨rfl, q5, rfl⟩
      have HB5 := Lib.hid (HB4.out.trans ((drew_below w4 q5).mono HB4.out.size))
      have HD5 := Lib.hid (drew_below w4 q5)
      obtain ⟨w5, hw5⟩ : ∃ w5, w5 = w4.drewN q5 := ⟨_, rfl⟩
      rw [← hw5] at HB5 HD5 ⊢
      clear hw5
      go_wp2_with fail
      refine (HS2.out w5 HD5.out).mono ?_
      rintro e w6 ⟨rfl, q6, rfl⟩
      have HB6 := Lib.hid (HB5.out.trans ((drew_below w5 q6).mono HB5.out.size))
      obtain ⟨w6, hw6⟩ : ∃ w6, w6 = w5.drewN q6 := ⟨_, rfl⟩
      rw [← hw6] at HB6 ⊢
      clear hw6
      go_wp2_with fail
      refine (awake19 w6).mono ?_
      rintro e w9 ⟨rfl, hb9⟩
      have HB9 := Lib.hid hb9
      clear hb9
      go_wp2_with fail
      go_ret
      exact ⟨rfl, HB6.out.trans (HB9.out.mono HB6.out.size)⟩
  refine main _ rfl fun h => decide_eq_false fun h4 => h2 ⟨of_decide_eq_true h, h4⟩
theorem intCells_zV (cs : List Int) : cs.flatMap intCells = zV cs := by
  unfold zV
  induction cs with
  | nil => rfl
  | cons a l ih => rw [List.flatMap_cons, ih]; rfl
/-- an answer of rows and a number -/
def GivesR (w : World) (L : List (List Int)) (er : Int) (e : Ending) (w' : World) : Prop :=
  Below w.heap.size w w' ∧ ∃ a c, e = .returned (.tuple #[.slice a L.length c, .int .i64 er]) ∧ RowsAt w' a L
def memL (cs : List Int) : List (List Int) := if okM cs then (List.range (topN cs)).map fun c => (mrow cs cs.length c).map fun k : Nat => (k : Int) else []
def memE (cs : List Int) : Int := if okM cs then 0 else 1
theorem RowsAt.nil (w : World) (a : Option Addr) : RowsAt w a [] := ⟨[], Cells.nil _ _, fun i l hi => by cases hi⟩
theorem MemPost.gives {w w' : World} {cs : List Int} {e : Ending} (h : MemPost w cs e w') : GivesR w (memL cs) (memE cs) e w' := by
  obtain ⟨hb, ⟨h1, rfl⟩ | ⟨h1, a, c, rfl, hr⟩⟩ := h
  · exact ⟨hb, none, 0, by unfold memL memE; rw [h1]; rfl, by unfold memL; rw [h1]; exact RowsAt.nil _ _⟩
  · refine ⟨hb, a, c, ?_, ?_⟩
    · unfold memL memE; rw [h1]; simp
    · unfold memL; rw [h1]; exact hr
theorem memL_len (cs : List Int) : (memL cs).length ≤ cs.length := by
  unfold memL
  split
  · rename_i h
    rw [List.length_map, List.length_range]
    by_cases hn : cs = []
    · subst hn; exact Nat.zero_le _
    · have hz : inZ cs = true := by unfold okM at h; simp at h; exact h.1
      exact (topN_lt hz (maxOf_spec hn).2).2.2
  · exact Nat.zero_le _
set_option maxRecDepth 100000 in
set_option maxHeartbeats 6400000 in
theorem compMembers_walk (w : World) (ca : Option Addr) (c : Nat) (cs : List Int) (_hlc : cs.length ≤ c) (_hmc : c ≤ maxLen) (hc0 : Cells w ca (cs.flatMap intCells)) (_wf : ∀ y ∈ cs, wfI y) :
    Calls Try.prog 11 #[.slice ca cs.length c] w (FineC w) := by
  by_cases h1 : 200 < cs.length
  · obtain ⟨N, hN⟩ : ∃ N, cs.length = N := ⟨_, rfl⟩
    rw [hN] at h1 ⊢
    clear hN hc0 _hlc _hmc
    go_enter Try.func11, Try.ntmps11
    go_wp2_with fail
    refine (awake19 w).mono ?_
    rintro e w9 ⟨rfl, hb9⟩
    have HB := Lib.hid hb9
    clear hb9
    go_wp2_with fail
    go_ret
    exact ⟨rfl, HB.out⟩
  have hc1 : Cells w ca (zV cs) := by
    rw [← intCells_zV]; exact hc0
  have hl := memL_len cs
  have HC1 := Lib.hid ((members_ok w ca cs c (by omega) hc1).mono fun _ _ k => MemPost.gives k)
  have HC2 : Hid (∀ w', Below w.heap.size w w' → Calls Try.prog 34 #[.slice ca cs.length c] w' (GivesR w' (memL cs) (memE cs))) := Lib.hid (fun w' h => (rmembers_ok w' ca cs c (by omega) (hc1.below h)).mono fun _ _ k => MemPost.gives k)
  obtain ⟨N, hN⟩ : ∃ N, cs.length = N := ⟨_, rfl⟩
  rw [hN] at HC1 HC2 hl h1 ⊢
  obtain ⟨L, hL⟩ : ∃ L, memL cs = L := ⟨_, rfl⟩
  obtain ⟨x1, hx1⟩ : ∃ x, memE cs = x := ⟨_, rfl⟩
  rw [hL, hx1] at HC1 HC2
  rw [hL] at hl
  clear hc0 hc1 hN _hlc _hmc hL hx1
  go_enter Try.func11, Try.ntmps11
  go_wp2_with fail
  refine HC1.out.mono ?_
  rintro e w1 ⟨hk1, a1, c1, rfl, hx1⟩
  have HB1 := Lib.hid hk1; have HX1 := Lib.hid hx1
  clear hk1 hx1
  go_wp2_with fail
  refine (HC2.out w1 HB1.out).mono ?_
  rintro e w2 ⟨hk2, a2, c2, rfl, hx2⟩
  have HB2 := Lib.hid (HB1.out.trans (hk2.mono HB1.out.size))
  have HS1 := Lib.hid (sameRows_ok w2 a1 a2 c1 c2 L L (by unfold maxLen; omega) (HX1.out.below hk2) hx2)
  rw [beq_iff_eq.2 (rfl : L = L)] at HS1
  clear hk2 hx2 HX1 HB1 HC1 HC2
  go_wp2_with fail
  refine HS1.out.mono ?_
  rintro e w5 ⟨rfl, q5, rfl⟩
  have HB5 := Lib.hid (HB2.out.trans ((drew_below w2 q5).mono HB2.out.size))
  obtain ⟨w5, hw5⟩ : ∃ w5, w5 = w2.drewN q5 := ⟨_, rfl⟩
  rw [← hw5] at HB5 ⊢
  clear hw5
  go_wp2_with fail
  refine (awake19 w5).mono ?_
  rintro e w9 ⟨rfl, hb9⟩
  have HB9 := Lib.hid hb9
  clear hb9
  go_wp2_with fail
  go_ret
  exact ⟨rfl, HB5.out.trans (HB9.out.mono HB5.out.size)⟩
end Go.Proofs.Ytbancojknahdgaa

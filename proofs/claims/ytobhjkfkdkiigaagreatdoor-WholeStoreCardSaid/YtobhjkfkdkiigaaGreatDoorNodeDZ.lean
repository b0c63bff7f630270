/- Mk (layer 3): refused, or of what is there. 
 The store of layer 3 between two of its stores to memory (StRaw). 
 Mk (layer 3): its contract. 
 New (layer 3): its contract. -/
import Derived.Test.YtobhjkfkdkiigaaGreatDoorNodeBZ
import Derived.Test.YtobhjkfkdkiigaaGreatDoorNodePZ
import Derived.Deep.RegionHeld3
namespace Go.Proofs.YtobhjkfkdkiigaaGreatDoor
open Go.RowKit HP NP
theorem bdN' (w : World) (n : Nat) : Below w.heap.size w (w.drewN n) := ⟨rfl, rfl, rfl, Nat.le_refl _, fun _ _ => rfl⟩
theorem ngivenQ (w : World) (B p : Nat) (S : NS) (h : Sto w B p S) (n : Nat) : Calls Tryz.prog 46 #[.pointer (some ⟨p, 0, none⟩)] (w.drewN n) fun e w' => e = .returned (.bool true) ∧ w' = w.drewN n :=
  (ngiven_ok (w.drewN n) B p S (h.below (bdN' w n))).mono fun _ _ ⟨he, hw⟩ => ⟨he, hw.symm⟩
theorem nfindQ (w : World) (B p : Nat) (S : NS) (h : Sto w B p S) (k x : Int) (hx : findE S k = x) (n : Nat) : Calls Tryz.prog 35 #[.pointer (some ⟨p, 0, none⟩), .int .i64 k] (w.drewN n) fun e w' => e = .returned (.int .i64 x) ∧ w' = w.drewN n :=
  (nfind_ok (w.drewN n) B p S (h.below (bdN' w n)) k).mono fun _ _ ⟨he, hw⟩ => ⟨by rw [he, hx], hw.symm⟩
set_option maxRecDepth 100000 in
set_option maxHeartbeats 4000000 in
theorem nmk_no (w : World) (B p : Nat) (S : NS) (h : Sto w B p S) (v low high : Int) (hno : okMk S v low high = false) :
    Calls Tryz.prog 60 #[.pointer (some ⟨p, 0, none⟩), .int .i64 v, .int .i64 low, .int .i64 high] w fun e w' => e = .returned (.tuple #[.int .i64 0, .int .i64 1]) ∧ ∃ n, w' = w.drewN n := by
  have HG := Lib.hid (fun n => ngivenQ w B p S h n)
  have HLx := Lib.hid (fun x hx n => nfindQ w B p S h low x hx n)
  have HHx := Lib.hid (fun x hx n => nfindQ w B p S h high x hx n)
  obtain ⟨g, q, cap, fa, fc, M, h⟩ := h
  have c0 : w.cell? ⟨p, 0, none⟩ = some (.int .i64 (S.vars : Int)) := h.tab.cell 0
  have c2 : w.cell? ⟨p, 2, none⟩ = some (.slice (some ⟨g, 0, none⟩) S.l.length cap) := h.tab.cell 2
  have hlm := h.wf.lm
  have H := Lib.hid h
  clear h
  have HNO := Lib.hid hno
  clear hno
  by_cases h1 : v < 0
  · have d1 : decide (v < 0) = true := decide_eq_true h1
    clear h1
    have HL := HG; have HH := HG
    go_enter Tryz.func60, Tryz.ntmps60
    go_wp2_with fail
    go_quiet ((first | (go_at_call 46; with_reducible exact Calls.quiet_of_same (HG.out _)) | (go_at_call 35; with_reducible exact Calls.quiet_of_same (HL.out _)) | (go_at_call 35; with_reducible exact Calls.quiet_of_same (HH.out _))))
    go_wp2_with fail
    go_ret2
    exact ⟨rfl, _, rfl⟩
  have d1 : decide (v < 0) = false := decide_eq_false h1
  by_cases h2 : (S.vars : Int) ≤ v
  · have d2 : decide ((S.vars : Int) ≤ v) = true := decide_eq_true h2
    clear h1 h2
    have HL := HG; have HH := HG
    go_enter Tryz.func60, Tryz.ntmps60
    go_wp2_with fail
    go_quiet ((first | (go_at_call 46; with_reducible exact Calls.quiet_of_same (HG.out _)) | (go_at_call 35; with_reducible exact Calls.quiet_of_same (HL.out _)) | (go_at_call 35; with_reducible exact Calls.quiet_of_same (HH.out _))))
    go_wp2_with fail
    go_ret2
    exact ⟨rfl, _, rfl⟩
  have d2 : decide ((S.vars : Int) ≤ v) = false := decide_eq_false h2
  cases hl : isK S.l low with
  | false =>
    have HL := Lib.hid (HLx.out 3 (by unfold findE; rw [hl]; rfl))
    have HH := HG
    clear h1 h2 hl
    go_enter Tryz.func60, Tryz.ntmps60
    go_wp2_with fail
    go_quiet ((first | (go_at_call 46; with_reducible exact Calls.quiet_of_same (HG.out _)) | (go_at_call 35; with_reducible exact Calls.quiet_of_same (HL.out _)) | (go_at_call 35; with_reducible exact Calls.quiet_of_same (HH.out _))))
    go_wp2_with fail
    go_ret2
    exact ⟨rfl, _, rfl⟩
  | true =>
    have HL := Lib.hid (HLx.out 0 (by unfold findE; rw [hl]; rfl))
    cases hh : isK S.l high with
    | false =>
      have HH := Lib.hid (HHx.out 3 (by unfold findE; rw [hh]; rfl))
      clear h1 h2 hl hh
      go_enter Tryz.func60, Tryz.ntmps60
      go_wp2_with fail
      go_quiet ((first | (go_at_call 46; with_reducible exact Calls.quiet_of_same (HG.out _)) | (go_at_call 35; with_reducible exact Calls.quiet_of_same (HL.out _)) | (go_at_call 35; with_reducible exact Calls.quiet_of_same (HH.out _))))
      go_wp2_with fail
      go_ret2
      exact ⟨rfl, _, rfl⟩
    | true =>
      have HH := Lib.hid (HHx.out 0 (by unfold findE; rw [hh]; rfl))
      obtain ⟨lo, rfl, hbl⟩ := isK_out hl
      obtain ⟨hi, rfl, hbh⟩ := isK_out hh
      obtain ⟨gl, _, lv, _⟩ := H.out.nd_ (isB_lt hbl)
      obtain ⟨_, _, hv, _⟩ := H.out.nd_ (isB_lt hbh)
      have b1 := isB_lt hbl
      have b2 := isB_lt hbh
      obtain ⟨x, hx⟩ : ∃ x, x = (nd S.l lo).v := ⟨_, rfl⟩
      obtain ⟨y, hy⟩ : ∃ y, y = (nd S.l hi).v := ⟨_, rfl⟩
      have hmin : min (x : Int) (y : Int) ≤ v := by
        have := HNO.out
        unfold okMk at this
        rw [hl, hh, Int.toNat_natCast, Int.toNat_natCast, ← hx, ← hy] at this
        simp at this
        omega
      rw [← hx] at lv
      rw [← hy] at hv
      have hm2 : (y < x ∧ (y : Int) ≤ v) ∨ (x ≤ y ∧ (x : Int) ≤ v) := by omega
      clear h1 h2 hl hh hbl hbh hx hy hmin
      rcases hm2 with ⟨hxv, hyv⟩ | ⟨hxv, hyv⟩
      all_goals
        go_enter Tryz.func60, Tryz.ntmps60
        go_wp2_with fail
        go_quiet ((first | (go_at_call 46; with_reducible exact Calls.quiet_of_same (HG.out _)) | (go_at_call 35; with_reducible exact Calls.quiet_of_same (HL.out _)) | (go_at_call 35; with_reducible exact Calls.quiet_of_same (HH.out _))))
        go_wp2_with fail
        go_ret2
        exact ⟨rfl, _, rfl⟩
end Go.Proofs.YtobhjkfkdkiigaaGreatDoor

namespace Go.Proofs.YtobhjkfkdkiigaaGreatDoor
open Go.RowKit HP NP
theorem wr_gen (n H M : Int) : ((n + H) % M - H + 1 + H) % M - H = (n + 1 + H) % M - H := by
  have e : (n + H) % M - H + 1 + H = (n + H) % M + 1 := by generalize (n + H) % M = x; omega
  rw [e, Int.emod_add_emod]
  congr 2
  omega
theorem wr_succ (n : Nat) : wrap64 (wr64 n + 1) = wr64 (n + 1) := by
  unfold wr64 wrap64
  rw [wr_gen, Int.natCast_add]
  rfl
structure StRaw (w : World) (B p g q cap : Nat) (fa : Option Addr) (fc : Nat) (vars budget : Nat) (l : List Nd) (F : List Nat) (c : Nat) (made sweeps : Int) : Prop where
  hp : B ≤ p
  tab : Blk w p 68 #[.int .i64 (vars : Int), .int .i64 (budget : Int), .slice (some ⟨g, 0, none⟩) l.length cap, .slice fa F.length fc, .pointer (some ⟨q, 0, none⟩), .int .i64 (c : Int), .int .i64 made, .int .i64 sweeps]
  row : w.ownsRow B 70 5 (.slice (some ⟨g, 0, none⟩) l.length cap) l.length (l.flatMap ndCells)
  fre : Cells w fa (F.reverse.map fun k : Nat => .int .i64 (k : Int))
  frt : TB w fa 3
  frc : F.length ≤ fc ∧ fc ≤ maxLen
theorem StIn.raw {w : World} {B p g q cap : Nat} {fa : Option Addr} {fc : Nat} {M : Key → Option Int} {S : NS} (h : StIn w B p g q cap fa fc M S) : StRaw w B p g q cap fa fc S.vars S.budget S.l (frees S.l) (cnt S.l) (wr64 S.made) (wr64 S.sweeps) :=
  ⟨h.hp, h.tab, h.row, h.fre, h.frt, h.frc⟩
theorem StRaw.stin {w : World} {B p g q cap : Nat} {fa : Option Addr} {fc : Nat} {M : Key → Option Int} {S : NS} (h : StRaw w B p g q cap fa fc S.vars S.budget S.l (frees S.l) (cnt S.l) (wr64 S.made) (wr64 S.sweeps)) (hw : Wf S) (hb : HB w B q M (cnt S.l - 2)) (hs : Says S.l M) : StIn w B p g q cap fa fc M S :=
  ⟨hw, h.hp, h.tab, h.row, h.fre, h.frt, h.frc, hb, hs⟩
section
variable {w w' : World} {B p g q cap : Nat} {fa : Option Addr} {fc vars budget : Nat} {l : List Nd} {F : List Nat} {c : Nat} {made sweeps : Int}
theorem StRaw.kp {T : TypeId → Bool} {B' : Nat} (h : StRaw w B p g q cap fa fc vars budget l F c made sweeps) (hk : Kp T B' w w') (h3 : T 68 = false) (h4 : T 70 = false) (h5 : T 3 = false) : StRaw w' B p g q cap fa fc vars budget l F c made sweeps :=
  { h with tab := hk.blk h.tab h3, row := own_kp h.row hk h4, fre := h.fre.kp h.frt hk h5, frt := h.frt.kp hk h5 }
theorem StRaw.below (h : StRaw w B p g q cap fa fc vars budget l F c made sweeps) (hb : Below w.heap.size w w') : StRaw w' B p g q cap fa fc vars budget l F c made sweeps :=
  h.kp (T := fun _ => false) (B' := 0) (Kp.of_below hb) rfl rfl rfl
/-- a store to the struct -/
theorem StRaw.kpp (h : StRaw w B p g q cap fa fc vars budget l F c made sweeps) (i : Nat) (u : Value) : Kp (fun t => t == 68) B w (w.setCell ⟨p, i, none⟩ u) := Kp.set h.tab (by rfl) h.hp _ _
theorem tn_store (t : TypeId) (h : (t == 68) = true) : TN t = true := by
  have : t = 68 := by simpa using h
  subst this; rfl
theorem tn_one (t : TypeId) (h : (t == 70) = true) : TN t = true := by
  have : t = 70 := by simpa using h
  subst this; rfl
def TS (t : TypeId) : Bool := t == 68 || t == 70
theorem ts_store (t : TypeId) (h : (t == 68) = true) : TS t = true := by unfold TS; rw [h]; rfl
theorem ts_one (t : TypeId) (h : (t == 70) = true) : TS t = true := by unfold TS; rw [h]; simp
theorem tn_ts (t : TypeId) (h : TS t = true) : TN t = true := by unfold TN; unfold TS at h; rw [h]; simp
theorem tn_hash (t : TypeId) (h : TH t = true) : TN t = true := by unfold TN; rw [h]; rfl
theorem StRaw.kpn (h : StRaw w B p g q cap fa fc vars budget l F c made sweeps) (i : Nat) (u : Value) : Kp TS B w (w.setCell ⟨p, i, none⟩ u) := (h.kpp i u).mono ts_store (Nat.le_refl _)
theorem StRaw.len_ (h : StRaw w B p g q cap fa fc vars budget l F c made sweeps) (x : Int) (c' : Nat) (hx : x = (c' : Int)) : StRaw (w.setCell ⟨p, 5, none⟩ (.int .i64 x)) B p g q cap fa fc vars budget l F c' made sweeps :=
  have hk := h.kpp 5 (.int .i64 x)
  ⟨h.hp, by rw [hx]; exact h.tab.set_ 5 _, own_kp h.row hk rfl, h.fre.kp h.frt hk rfl, h.frt.kp hk rfl, h.frc⟩
theorem StRaw.made_ (h : StRaw w B p g q cap fa fc vars budget l F c made sweeps) (m : Int) : StRaw (w.setCell ⟨p, 6, none⟩ (.int .i64 m)) B p g q cap fa fc vars budget l F c m sweeps :=
  have hk := h.kpp 6 (.int .i64 m)
  ⟨h.hp, h.tab.set_ 6 _, own_kp h.row hk rfl, h.fre.kp h.frt hk rfl, h.frt.kp hk rfl, h.frc⟩
theorem StRaw.sweeps_ (h : StRaw w B p g q cap fa fc vars budget l F c made sweeps) (m : Int) : StRaw (w.setCell ⟨p, 7, none⟩ (.int .i64 m)) B p g q cap fa fc vars budget l F c made m :=
  have hk := h.kpp 7 (.int .i64 m)
  ⟨h.hp, h.tab.set_ 7 _, own_kp h.row hk rfl, h.fre.kp h.frt hk rfl, h.frt.kp hk rfl, h.frc⟩
/-- the free numbers are others -/
theorem StRaw.free_ (h : StRaw w B p g q cap fa fc vars budget l F c made sweeps) {fa' : Option Addr} {fc' : Nat} {F' : List Nat} (h1 : Cells w fa' (F'.reverse.map fun k : Nat => .int .i64 (k : Int))) (h2 : TB w fa' 3) (h3 : F'.length ≤ fc' ∧ fc' ≤ maxLen) :
    StRaw (w.setCell ⟨p, 3, none⟩ (.slice fa' F'.length fc')) B p g q cap fa' fc' vars budget l F' c made sweeps :=
  have hk := h.kpp 3 (.slice fa' F'.length fc')
  ⟨h.hp, h.tab.set_ 3 _, own_kp h.row hk rfl, h1.kp h2 hk rfl, h2.kp hk rfl, h3⟩
/-- the first free number taken -/
theorem StRaw.pop {f : Nat} {t : List Nat} (h : StRaw w B p g q cap fa fc vars budget l (f :: t) c made sweeps) : StRaw (w.setCell ⟨p, 3, none⟩ (.slice fa t.length fc)) B p g q cap fa fc vars budget l t c made sweeps := by
  refine h.free_ (fun hx => ?_) h.frt ⟨by have := h.frc.1; simp at this; omega, h.frc.2⟩
  have hf := h.fre
  rw [List.reverse_cons, List.map_append] at hf
  obtain ⟨b, off, e, hb, hh⟩ := hf (by simp)
  exact ⟨b, off, e, hb, fun i v hv => hh i v (by rw [List.getElem?_append_left (List.getElem?_eq_some_iff.1 hv).1]; exact hv)⟩
/-- the first free number's cell -/
theorem StRaw.top {f : Nat} {t : List Nat} (h : StRaw w B p g q cap fa fc vars budget l (f :: t) c made sweeps) : ∃ b off, fa = some ⟨b, off, none⟩ ∧ b < w.heap.size ∧ w.cell? ⟨b, off + t.length, none⟩ = some (.int .i64 (f : Int)) := by
  have hf := h.fre
  rw [List.reverse_cons, List.map_append] at hf
  obtain ⟨b, off, e, hb, hh⟩ := hf (by simp)
  exact ⟨b, off, e, hb, hh t.length _ (by rw [List.getElem?_append_right (by simp)]; simp)⟩
/-- a node stored -/
theorem StRaw.node (h : StRaw w B p g q cap fa fc vars budget l F c made sweeps) {k : Nat} (hk : k < l.length) (x : Nd) :
    StRaw (((((w.setCell ⟨g, k * 5, none⟩ (.bool x.is)).setCell ⟨g, k * 5 + 1, none⟩ (.int .i64 (x.v : Int))).setCell ⟨g, k * 5 + 2, none⟩ (.int .i64 (x.low : Int))).setCell ⟨g, k * 5 + 3, none⟩ (.int .i64 (x.high : Int))).setCell ⟨g, k * 5 + 4, none⟩ (.int .i64 (x.pins : Int))) B p g q cap fa fc vars budget (l.set k x) F c made sweeps ∧
    Kp (fun t => t == 70) B w (((((w.setCell ⟨g, k * 5, none⟩ (.bool x.is)).setCell ⟨g, k * 5 + 1, none⟩ (.int .i64 (x.v : Int))).setCell ⟨g, k * 5 + 2, none⟩ (.int .i64 (x.low : Int))).setCell ⟨g, k * 5 + 3, none⟩ (.int .i64 (x.high : Int))).setCell ⟨g, k * 5 + 4, none⟩ (.int .i64 (x.pins : Int))) := by
  have r1 := (World.ownsRow.stored h.row (k * 5) (.bool x.is)).1
  have r2 := (World.ownsRow.stored r1 (k * 5 + 1) (.int .i64 (x.v : Int))).1
  have r3 := (World.ownsRow.stored r2 (k * 5 + 2) (.int .i64 (x.low : Int))).1
  have r4 := (World.ownsRow.stored r3 (k * 5 + 3) (.int .i64 (x.high : Int))).1
  have r5 := (World.ownsRow.stored r4 (k * 5 + 4) (.int .i64 (x.pins : Int))).1
  rw [flat_set5 ndCells (fun _ => rfl) l k hk x _ _ _ _ _ rfl] at r5
  obtain ⟨c0, h0, hB⟩ := own_blk h.row
  obtain ⟨c1, h1, _⟩ := own_blk r1
  obtain ⟨c2, h2, _⟩ := own_blk r2
  obtain ⟨c3, h3, _⟩ := own_blk r3
  obtain ⟨c4, h4, _⟩ := own_blk r4
  have kk : Kp (fun t => t == 70) B w (((((w.setCell ⟨g, k * 5, none⟩ (.bool x.is)).setCell ⟨g, k * 5 + 1, none⟩ (.int .i64 (x.v : Int))).setCell ⟨g, k * 5 + 2, none⟩ (.int .i64 (x.low : Int))).setCell ⟨g, k * 5 + 3, none⟩ (.int .i64 (x.high : Int))).setCell ⟨g, k * 5 + 4, none⟩ (.int .i64 (x.pins : Int))) :=
    ((((Kp.set h0 (by rfl) hB _ _).trans (Kp.set h1 (by rfl) hB _ _)).trans (Kp.set h2 (by rfl) hB _ _)).trans (Kp.set h3 (by rfl) hB _ _)).trans (Kp.set h4 (by rfl) hB _ _)
  refine ⟨⟨h.hp, ?_, ?_, h.fre.kp h.frt kk rfl, h.frt.kp kk rfl, h.frc⟩, kk⟩
  · rw [List.length_set]; exact kk.blk h.tab rfl
  · rw [List.length_set]; exact r5
/-- a place more -/
theorem StRaw.more (h : StRaw w B p g q cap fa fc vars budget l F c made sweeps) {g' cap' : Nat} {w' : World} (hg : w.grownBy w' (some g)) (hown : w'.ownsRow B 70 5 (.slice (some ⟨g', 0, none⟩) (l.length + 1) cap') (l.length + 1) (l.flatMap ndCells ++ ndCells Nd.no)) :
    StRaw (w'.setCell ⟨p, 2, none⟩ (.slice (some ⟨g', 0, none⟩) (l.length + 1) cap')) B p g' q cap' fa fc vars budget (l ++ [Nd.no]) F c made sweeps ∧ Kp TS B w (w'.setCell ⟨p, 2, none⟩ (.slice (some ⟨g', 0, none⟩) (l.length + 1) cap')) ∧ Blk w' p 68 #[.int .i64 (vars : Int), .int .i64 (budget : Int), .slice (some ⟨g, 0, none⟩) l.length cap, .slice fa F.length fc, .pointer (some ⟨q, 0, none⟩), .int .i64 (c : Int), .int .i64 made, .int .i64 sweeps] := by
  obtain ⟨cs, hc, hBg⟩ := own_blk h.row
  have k1 : Kp (fun t => t == 70) B w w' := Kp.grown hg (fun k e _ => by injection e with e; subst e; exact ⟨hBg, cs, _, _, hc, by rfl⟩)
  have ht : Blk w' p 68 _ := k1.blk h.tab rfl
  have k2 : Kp (fun t => t == 68) B w' (w'.setCell ⟨p, 2, none⟩ (.slice (some ⟨g', 0, none⟩) (l.length + 1) cap')) := Kp.set ht (by rfl) h.hp _ _
  refine ⟨⟨h.hp, ?_, ?_, (h.fre.kp h.frt k1 rfl).kp (h.frt.kp k1 rfl) k2 rfl, (h.frt.kp k1 rfl).kp k2 rfl, h.frc⟩, (k1.mono ts_one (Nat.le_refl _)).trans (k2.mono ts_store (Nat.le_refl _)), ht⟩
  · have := ht.set_ 2 (.slice (some ⟨g', 0, none⟩) (l.length + 1) cap')
    simpa using this
  · have := own_kp hown k2 rfl
    simpa using this
end
theorem own_some {w : World} {base e size n : Nat} {v : Value} {xs : List Value} (h : w.ownsRow base e size v n xs) (hn : 0 < n) : ∃ g cap, v = .slice (some ⟨g, 0, none⟩) n cap := by
  rcases h.2 with ⟨_, h2⟩ | ⟨g, cap, cur, h1, _⟩
  · omega
  · exact ⟨g, cap, h1⟩
theorem info_one : (Tryz.prog.info? 70).map (fun i => (i.zero, i.size, i.bytes)) = some (some (.agg #[.bool false, .int .i64 0, .int .i64 0, .int .i64 0, .int .i64 0]), 5, 40) := by kernel_rfl
theorem no_ones : ∀ u ∈ ndCells Nd.no, u.oneCell' = true := by
  intro u hu; simp [ndCells, Nd.no] at hu; rcases hu with rfl | rfl <;> rfl
theorem Says.put {l : List Nd} {M : Key → Option Int} (h : Says l M) {k : Nat} (hk : k ≤ l.length) (h2 : 2 ≤ k) (h0 : isB l k = false) (x : Nd) (hx : x.is = true) (hno : findK l (kyOf x) = none) : Says (putN l k x) (setK M (kyOf x) (some (k : Int))) := fun c v => by
  unfold setK
  constructor
  · intro hm
    by_cases e : c = kyOf x
    · rw [if_pos e] at hm
      injection hm with hm
      exact ⟨k, ⟨h2, by unfold isB; rw [nd_put hk, if_pos rfl]; exact hx, by rw [nd_put hk, if_pos rfl, e]⟩, hm.symm⟩
    · rw [if_neg e] at hm
      obtain ⟨j, ⟨j2, jb, jc⟩, jv⟩ := (h c v).1 hm
      have hj : j ≠ k := by rintro rfl; rw [h0] at jb; cases jb
      exact ⟨j, ⟨j2, by unfold isB; rw [nd_put hk, if_neg hj]; exact jb, by rw [nd_put hk, if_neg hj]; exact jc⟩, jv⟩
  · rintro ⟨j, ⟨j2, jb, jc⟩, jv⟩
    by_cases hj : j = k
    · subst hj
      rw [nd_put hk, if_pos rfl] at jc
      rw [if_pos jc.symm, jv]
    · unfold isB at jb
      rw [nd_put hk, if_neg hj] at jb jc
      rw [if_neg (by rintro rfl; exact findK_none hno j ⟨j2, jb, jc⟩)]
      exact (h c v).2 ⟨j, ⟨j2, jb, jc⟩, jv⟩
theorem Says.some_ {S : NS} {M : Key → Option Int} (h : Says S.l M) {c : Key} {k : Nat} (hf : findK S.l c = some k) : M c = some (k : Int) := (h c _).2 ⟨k, findK_some hf, rfl⟩
theorem Says.none_ {S : NS} {M : Key → Option Int} (h : Says S.l M) {c : Key} (hf : findK S.l c = none) : M c = none := by
  cases hm : M c with
  | none => rfl
  | some v => obtain ⟨k, hk, _⟩ := (h c v).1 hm; exact absurd hk (findK_none hf k)
end Go.Proofs.YtobhjkfkdkiigaaGreatDoor

namespace Go.Proofs.YtobhjkfkdkiigaaGreatDoor
open Go.RowKit HP NP
def MkPost (B p : Nat) (S : NS) (v low high : Int) (w : World) (e : Ending) (w' : World) : Prop :=
  e = .returned (.tuple #[.int .i64 (mkS S v low high).2.1, .int .i64 (mkS S v low high).2.2]) ∧ Sto w' B p (mkS S v low high).1 ∧ Kp TN B w w'
theorem MkPost.mk {B p : Nat} {S : NS} {v low high : Int} {w w' : World} {e : Ending} {S' : NS} {r x : Int} (h : mkS S v low high = (S', r, x)) (he : e = .returned (.tuple #[.int .i64 r, .int .i64 x])) (hs : Sto w' B p S') (hk : Kp TN B w w') : MkPost B p S v low high w e w' := by
  unfold MkPost; rw [h]; exact ⟨he, hs, hk⟩
set_option maxRecDepth 100000 in
set_option maxHeartbeats 4000000 in
theorem nmk_ok (w : World) (B p : Nat) (S : NS) (h : Sto w B p S) (hB : B ≤ w.heap.size) (v low high : Int) :
    Calls Tryz.prog 60 #[.pointer (some ⟨p, 0, none⟩), .int .i64 v, .int .i64 low, .int .i64 high] w (MkPost B p S v low high w) := by
  cases hok : okMk S v low high with
  | false => exact (nmk_no w B p S h v low high hok).mono fun e w' ⟨he, n, hw⟩ => MkPost.mk (by unfold mkS; rw [hok]; rfl) he (by rw [hw]; exact h.below (bdN' w n)) (by rw [hw]; exact (Kp.refl _ _ _).drewN n)
  | true =>
  have HS := Lib.hid h
  have HOK := Lib.hid hok
  have HG := Lib.hid (fun n => ngivenQ w B p S h n)
  have HLx := Lib.hid (fun x hx n => nfindQ w B p S h low x hx n)
  have HHx := Lib.hid (fun x hx n => nfindQ w B p S h high x hx n)
  obtain ⟨g, q, cap, fa, fc, M, h⟩ := h
  have c0 : w.cell? ⟨p, 0, none⟩ = some (.int .i64 (S.vars : Int)) := h.tab.cell 0
  have c2 : w.cell? ⟨p, 2, none⟩ = some (.slice (some ⟨g, 0, none⟩) S.l.length cap) := h.tab.cell 2
  have hlm := h.wf.lm
  have H := Lib.hid h
  clear h
  unfold okMk at hok
  simp only [Bool.and_eq_true, decide_eq_true_eq] at hok
  obtain ⟨hv0, hvv, hl, hh, hvl, hvh⟩ := hok
  have HL := Lib.hid (HLx.out 0 (by unfold findE; rw [hl]; rfl))
  have HH := Lib.hid (HHx.out 0 (by unfold findE; rw [hh]; rfl))
  obtain ⟨lo, rfl, hbl⟩ := isK_out hl
  obtain ⟨hi, rfl, hbh⟩ := isK_out hh
  obtain ⟨va, rfl⟩ : ∃ n : Nat, v = (n : Int) := ⟨v.toNat, by omega⟩
  rw [Int.toNat_natCast] at hvl hvh
  obtain ⟨gl, _, lv, _⟩ := H.out.nd_ (isB_lt hbl)
  obtain ⟨_, _, hv, _⟩ := H.out.nd_ (isB_lt hbh)
  have b1 := isB_lt hbl
  have b2 := isB_lt hbh
  have HF := Lib.hid (show va < S.vars ∧ isB S.l lo = true ∧ isB S.l hi = true ∧ va < (nd S.l lo).v ∧ va < (nd S.l hi).v from ⟨by omega, hbl, hbh, by omega, by omega⟩)
  obtain ⟨x, hx⟩ : ∃ x, x = (nd S.l lo).v := ⟨_, rfl⟩
  obtain ⟨y, hy⟩ : ∃ y, y = (nd S.l hi).v := ⟨_, rfl⟩
  rw [← hx] at lv hvl
  rw [← hy] at hv hvh
  have d0 : decide ((va : Int) < 0) = false := decide_eq_false (by omega)
  have d2 : decide ((S.vars : Int) ≤ (va : Int)) = false := decide_eq_false (by omega)
  have d2' : decide (S.vars ≤ va) = false := decide_eq_false (by omega)
  obtain ⟨mn, hmn⟩ : ∃ mn : Nat, (if y < x then (y : Int) else (x : Int)) = (mn : Int) := ⟨if y < x then y else x, by split <;> rfl⟩
  have d3 : va < mn := by split at hmn <;> omega
  have hsm : va ≤ 256 := by have := H.out.wf.v256; omega
  clear hv0 hvv hl hh hbl hbh hx hy hvl hvh HLx HHx
  by_cases he : lo = hi
  · have de : ((lo : Int) == (hi : Int)) = true := beq_iff_eq.2 (by omega)
    have hmk : mkS S va lo hi = (S, (lo : Int), 0) := by unfold mkS; rw [HOK.out, if_pos rfl, if_pos (by omega)]
    have HMK := Lib.hid hmk
    clear he hmk
    go_enter Tryz.func60, Tryz.ntmps60
    go_wp2_with fail
    go_quiet ((first | (go_at_call 46; with_reducible exact Calls.quiet_of_same (HG.out _)) | (go_at_call 35; with_reducible exact Calls.quiet_of_same (HL.out _)) | (go_at_call 35; with_reducible exact Calls.quiet_of_same (HH.out _))))
    go_wp2_with fail
    go_ret2
    exact MkPost.mk HMK.out rfl (HS.out.below (bdN' _ _)) ((Kp.refl _ _ _).drewN _)
  · have de : ((lo : Int) == (hi : Int)) = false := beq_eq_false_iff_ne.2 (by omega)
    have HE := Lib.hid he
    clear he
    go_enter Tryz.func60, Tryz.ntmps60
    go_wp2_with fail
    go_quiet ((first | (go_at_call 46; with_reducible exact Calls.quiet_of_same (HG.out _)) | (go_at_call 35; with_reducible exact Calls.quiet_of_same (HL.out _)) | (go_at_call 35; with_reducible exact Calls.quiet_of_same (HH.out _))))
    obtain ⟨w0, hw0⟩ : ∃ w0, w0 = w.drewN nq := ⟨_, rfl⟩
    rw [← hw0]
    have HK0 : Hid (Kp TN B w w0) := by rw [hw0]; exact Lib.hid ((Kp.refl _ _ _).drewN _)
    have HI : Hid (StIn w0 B p g q cap fa fc M S) := by rw [hw0]; exact Lib.hid (H.out.below (bdN' _ _))
    have hB0 : B ≤ w0.heap.size := by rw [hw0]; exact hB
    have c4 : w0.cell? ⟨p, 4, none⟩ = some (.pointer (some ⟨q, 0, none⟩)) := HI.out.tab.cell 4
    have pl : p < w0.heap.size := HI.out.tab.lt
    clear hw0 c0 c2 HG HL HH gl lv hv b1 b2 d2 d2' H hmn
    have kb := Blk.new_ w0 123 #[.int .i64 (va : Int), .int .i64 (lo : Int), .int .i64 (hi : Int)]
    have HKB := Lib.hid kb
    have hpne : p ≠ w0.heap.size := by omega
    have HSZ : Hid ((w0.alloc (.cells #[.int .i64 (va : Int), .int .i64 (lo : Int), .int .i64 (hi : Int)] 123)).heap.size = w0.heap.size + 1) := Lib.hid (by simp)
    have HKP : Hid (∀ w', Below (w0.alloc (.cells #[.int .i64 (va : Int), .int .i64 (lo : Int), .int .i64 (hi : Int)] 123)).drew.heap.size (w0.alloc (.cells #[.int .i64 (va : Int), .int .i64 (lo : Int), .int .i64 (hi : Int)] 123)).drew w' → w'.cell? ⟨p, 4, none⟩ = some (.pointer (some ⟨q, 0, none⟩)) ∧ w'.cell? ⟨w0.heap.size, 0, none⟩ = some (.int .i64 (va : Int)) ∧ w'.cell? ⟨w0.heap.size, 1, none⟩ = some (.int .i64 (lo : Int)) ∧ w'.cell? ⟨w0.heap.size, 2, none⟩ = some (.int .i64 (hi : Int))) := by
      refine Lib.hid fun w' hb => ?_
      have h1 := HKB.out.drew_.below hb (by simp)
      have h2 := (HI.out.tab.alloc_ (.cells #[.int .i64 (va : Int), .int .i64 (lo : Int), .int .i64 (hi : Int)] 123)).drew_.below hb (by simp; omega)
      exact ⟨h2.cell 4, h1.cell 0, h1.cell 1, h1.cell 2⟩
    have HKP0 := Lib.hid (HKP.out _ (Below.refl _ _))
    have HW0 : Hid (Below w0.heap.size w0 (w0.alloc (.cells #[.int .i64 (va : Int), .int .i64 (lo : Int), .int .i64 (hi : Int)] 123))) := Lib.hid ((Below.refl _ _).alloc (Nat.le_refl _) _)
    have HGT := Lib.hid (hb_get ((w0.alloc (.cells #[.int .i64 (va : Int), .int .i64 (lo : Int), .int .i64 (hi : Int)] 123)).drew) B q M (cnt S.l - 2) ((va : Int), (lo : Int), (hi : Int)) ((HI.out.has.below HW0.out).below ((Below.refl _ _).drew)))
    clear kb
    go_wp2_with fail
    go_region_held3 (fun w' => w'.cell? ⟨p, 4, none⟩ = some (.pointer (some ⟨q, 0, none⟩)) ∧ w'.cell? ⟨w0.heap.size, 0, none⟩ = some (.int .i64 (va : Int)) ∧ w'.cell? ⟨w0.heap.size, 1, none⟩ = some (.int .i64 (lo : Int)) ∧ w'.cell? ⟨w0.heap.size, 2, none⟩ = some (.int .i64 (hi : Int)))
      (first | with_reducible exact HKP.out _ hb3 | with_reducible exact HKP0.out) (first | (go_at_call 86; ((with_reducible refine HGT.out.mono ?_); rintro e w3 ⟨rfl, hb3⟩)))
    have HB3 := Lib.hid (HW0.out.trans ((Below.refl _ _).drew.trans (hb3.mono (by simp : w0.heap.size ≤ _))))
    have HI3 := Lib.hid (HI.out.below HB3.out)
    have hk3 := HKB.out.drew_.below hb3 (by simp)
    have HK3 := Lib.hid hk3
    have HKW := Lib.hid (HK0.out.trans (Kp.of_below HB3.out : Kp TN B w0 w3))
    have hB3 : B ≤ w3.heap.size := by have := HB3.out.size; omega
    have pl3 : p < w3.heap.size := HI3.out.tab.lt
    clear hb3 hk3 HKP HKP0 c4 pl hpne hB0 d3 de
    cases hf : findK S.l ((va : Int), (lo : Int), (hi : Int)) with
    | some k =>
      have hm := HI3.out.rep.some_ hf
      have hg1 : getV M ((va : Int), (lo : Int), (hi : Int)) = (k : Int) := by unfold getV; rw [hm]; rfl
      have hg2 : getE M ((va : Int), (lo : Int), (hi : Int)) = 0 := by unfold getE; rw [hm]; rfl
      have hmk : mkS S va lo hi = (S, (k : Int), 0) := by unfold mkS; rw [HOK.out, if_pos rfl, if_neg (by have := HE.out; omega), hf]
      have HMK := Lib.hid hmk
      rw [hg1, hg2]
      clear hm hg1 hg2 hmk hf
      go_wp2_with fail
      go_ret2
      exact MkPost.mk HMK.out rfl ⟨_, _, _, _, _, _, HI3.out⟩ HKW.out
    | none =>
      have hm := HI3.out.rep.none_ hf
      have hg1 : getV M ((va : Int), (lo : Int), (hi : Int)) = 0 := by unfold getV; rw [hm]; rfl
      have hg2 : getE M ((va : Int), (lo : Int), (hi : Int)) = 3 := by unfold getE; rw [hm]; rfl
      rw [hg1, hg2]
      have HM := Lib.hid hm; have HFN := Lib.hid hf
      have c1 : w3.cell? ⟨p, 1, none⟩ = some (.int .i64 (S.budget : Int)) := HI3.out.tab.cell 1
      have c5 : w3.cell? ⟨p, 5, none⟩ = some (.int .i64 (cnt S.l : Int)) := HI3.out.tab.cell 5
      clear hm hg1 hg2 hf
      by_cases hbud : S.budget ≤ cnt S.l
      · have hmk : mkS S va lo hi = (S, 0, 30) := by unfold mkS; rw [HOK.out, if_pos rfl, if_neg (by have := HE.out; omega), HFN.out]; simp only [if_pos hbud]
        have HMK := Lib.hid hmk
        clear hmk
        go_wp2_with fail
        go_quiet (fail)
        go_wp2_with fail
        go_ret2
        exact MkPost.mk HMK.out rfl (Sto.below (w := w3) ⟨_, _, _, _, _, _, HI3.out⟩ (bdN' _ _)) (HKW.out.drewN _)
      · have hbud' : cnt S.l < S.budget := by omega
        have HBUD := Lib.hid hbud'
        have dbud : decide ((S.budget : Int) ≤ (cnt S.l : Int)) = false := decide_eq_false (by omega)
        clear hbud
        go_wp2_with fail
        go_quiet (fail)
        obtain ⟨w4, hw4⟩ : ∃ w4, w4 = w3.drewN nq := ⟨_, rfl⟩
        rw [← hw4]
        have HI4 : Hid (StIn w4 B p g q cap fa fc M S) := by rw [hw4]; exact Lib.hid (HI3.out.below (bdN' _ _))
        have HK4 : Hid (Kp TN B w w4) := by rw [hw4]; exact Lib.hid (HKW.out.drewN _)
        have HKB4 : Hid (Blk w4 w0.heap.size 123 #[.int .i64 (va : Int), .int .i64 (lo : Int), .int .i64 (hi : Int)]) := by rw [hw4]; exact Lib.hid HK3.out
        have hB4 : B ≤ w4.heap.size := by rw [hw4]; exact hB3
        clear hw4 c1 c5 hB3 pl3
        have c2 : w4.cell? ⟨p, 2, none⟩ = some (.slice (some ⟨g, 0, none⟩) S.l.length cap) := HI4.out.tab.cell 2
        have c3 : w4.cell? ⟨p, 3, none⟩ = some (.slice fa (frees S.l).length fc) := HI4.out.tab.cell 3
        have f3 : w4.frozen? ⟨p, 3, none⟩ = false := HI4.out.tab.frozen 3
        have pl4 : p < w4.heap.size := HI4.out.tab.lt
        have hfrc := HI4.out.frc
        have hlenfr : (frees S.l).length ≤ S.l.length := by unfold frees; exact Nat.le_trans (List.length_filter_le _ _) (by simp)
        cases hfr : frees S.l with
        | nil =>
          have hff : ff S.l = S.l.length := by unfold ff; rw [hfr]; rfl
          have HFF := Lib.hid hff; have HFR := Lib.hid hfr
          have hR4 := HI4.out.raw
          rw [hfr] at hR4 c3
          have HR4 := Lib.hid (hR4.below ((Below.refl _ _).alloc (Nat.le_refl _) (.cells #[.bool false, .int .i64 0, .int .i64 0, .int .i64 0, .int .i64 0] 70) : Below w4.heap.size w4 (w4.alloc (.cells #[.bool false, .int .i64 0, .int .i64 0, .int .i64 0, .int .i64 0] 70))))
          have HKA := Lib.hid ((Kp.refl TS B w4).alloc (.cells #[.bool false, .int .i64 0, .int .i64 0, .int .i64 0, .int .i64 0] 70))
          obtain ⟨i0, hi0, hz0, hz1, hz2⟩ := info_parts info_one
          have hll : S.l.length ≤ 1048576 := hlm
          clear hff hfr hR4 hlenfr hfrc
          go_wp2_with (at_builtin; refine wpList_append_src rfl (.tmp 126) (.tmp 128) 61 rfl B 70 i0 (.agg #[.bool false, .int .i64 0, .int .i64 0, .int .i64 0, .int .i64 0]) 5 40 Tryz.underlying61 hi0 hz0 hz1 hz2 rfl (by decide) (.slice (some ⟨g, 0, none⟩) S.l.length cap) S.l.length _ rfl HR4.out.row (some ⟨w4.heap.size, 0, none⟩) 1 1 (ndCells Nd.no) rfl rfl (Cells.lit _ _ _) no_ones (by unfold maxLen; omega) (by omega) (by simp; omega) ?_)
          intro v' w41 hown hg _
          obtain ⟨g', cap', rfl⟩ := own_some hown (by omega)
          have hM := HR4.out.more hg hown
          have HM1 := Lib.hid hM.1; have HM2 := Lib.hid hM.2.1
          have c2 : w41.cell? ⟨p, 2, none⟩ = some (.slice (some ⟨g, 0, none⟩) S.l.length cap) := hM.2.2.cell 2
          have f2 : w41.frozen? ⟨p, 2, none⟩ = false := hM.2.2.frozen 2
          have pl41 : p < w41.heap.size := hM.2.2.lt
          have hgp : g' ≠ p := by obtain ⟨cs, hc, _⟩ := own_blk hown; exact hc.ne hM.2.2 (by decide)
          have hown' : w41.ownsRow B 70 5 (.slice (some ⟨g', 0, none⟩) (S.l.length + 1) cap') (S.l.length + 1) ((S.l ++ [Nd.no]).flatMap ndCells) := by simpa using hown
          have at_ := fun j v hj => own_at ndCells 5 (fun _ => rfl) hown' (i := S.l.length) (j := j) (v := v) (x := Nd.no) (by simp) hj
          have x0 : w41.cell? ⟨g', S.l.length * 5, none⟩ = some (.bool false) := at_ 0 _ rfl
          have x1 : w41.cell? ⟨g', S.l.length * 5 + 1, none⟩ = some (.int .i64 0) := at_ 1 _ rfl
          have x2 : w41.cell? ⟨g', S.l.length * 5 + 2, none⟩ = some (.int .i64 0) := at_ 2 _ rfl
          have x3 : w41.cell? ⟨g', S.l.length * 5 + 3, none⟩ = some (.int .i64 0) := at_ 3 _ rfl
          have x4 : w41.cell? ⟨g', S.l.length * 5 + 4, none⟩ = some (.int .i64 0) := at_ 4 _ rfl
          have z0 := World.ownsRow.frozenAt hown (S.l.length * 5)
          have z1 := World.ownsRow.frozenAt hown (S.l.length * 5 + 1)
          have z2 := World.ownsRow.frozenAt hown (S.l.length * 5 + 2)
          have z3 := World.ownsRow.frozenAt hown (S.l.length * 5 + 3)
          have z4 := World.ownsRow.frozenAt hown (S.l.length * 5 + 4)
          have gl41 : g' < w41.heap.size := by obtain ⟨cs, hc, _⟩ := own_blk hown; exact hc.lt
          clear hown hown' hM hg c3 f3 pl4 at_
          go_wp2_with fail
          generalize hw5 : (((((w41.setCell ⟨p, 2, none⟩ (.slice (some ⟨g', 0, none⟩) (S.l.length + 1) cap')).setCell ⟨g', S.l.length * 5, none⟩ (.bool true)).setCell ⟨g', S.l.length * 5 + 1, none⟩ (.int .i64 (va : Int))).setCell ⟨g', S.l.length * 5 + 2, none⟩ (.int .i64 (lo : Int))).setCell ⟨g', S.l.length * 5 + 3, none⟩ (.int .i64 (hi : Int))).setCell ⟨g', S.l.length * 5 + 4, none⟩ (.int .i64 0) = w5
          have HN5 := HM1.out.node (k := S.l.length) (by simp) ⟨true, va, lo, hi, 0⟩
          have ep : putN S.l (ff S.l) ⟨true, va, lo, hi, 0⟩ = (S.l ++ [Nd.no]).set S.l.length ⟨true, va, lo, hi, 0⟩ := by rw [HFF.out]; unfold putN; rw [if_neg (Nat.lt_irrefl _)]; simp
          have ef : frees (putN S.l (ff S.l) ⟨true, va, lo, hi, 0⟩) = [] := by rw [frees_put _ rfl, HFR.out]; rfl
          have HR5' : Hid (∃ g5 cap5 fa5 fc5, StRaw w5 B p g5 q cap5 fa5 fc5 S.vars S.budget (putN S.l (ff S.l) ⟨true, va, lo, hi, 0⟩) (frees (putN S.l (ff S.l) ⟨true, va, lo, hi, 0⟩)) (cnt S.l) (wr64 S.made) (wr64 S.sweeps)) := by rw [← hw5, ep, ← ep, ef, ep]; exact Lib.hid ⟨_, _, _, _, HN5.1⟩
          have HK45 : Hid (Kp TS B w4 w5) := by
            rw [← hw5]
            exact Lib.hid ((HKA.out.trans HM2.out).trans (HN5.2.mono ts_one (Nat.le_refl _)))
          obtain ⟨g5, cap5, fa5, fc5, hR5⟩ := HR5'.out
          have HR5 := Lib.hid hR5
          obtain ⟨kk, hkk⟩ : ∃ kk, kk = S.l.length := ⟨_, rfl⟩
          have HKK : Hid (kk = ff S.l) := Lib.hid (by rw [hkk, HFF.out])
          rw [← hkk]
          clear hkk hR5 HR5' ep ef HN5 hw5 hgp x0 x1 x2 x3 x4 z0 z1 z2 z3 z4 c2 f2 hll pl41 gl41
          have c4 : w5.cell? ⟨p, 4, none⟩ = some (.pointer (some ⟨q, 0, none⟩)) := HR5.out.tab.cell 4
          have pl5 : p < w5.heap.size := HR5.out.tab.lt
          have HKB5 := Lib.hid (HK45.out.blk HKB4.out rfl)
          have HH5 := Lib.hid ((HI4.out.has.kp HK45.out rfl rfl).below ((Below.refl _ _).drew : Below w5.heap.size w5 w5.drew))
          have hB5 : B ≤ w5.heap.size := by have := HK45.out.size; omega
          have k0 : w5.cell? ⟨w0.heap.size, 0, none⟩ = some (.int .i64 (va : Int)) := HKB5.out.cell 0
          have k1 : w5.cell? ⟨w0.heap.size, 1, none⟩ = some (.int .i64 (lo : Int)) := HKB5.out.cell 1
          have k2 : w5.cell? ⟨w0.heap.size, 2, none⟩ = some (.int .i64 (hi : Int)) := HKB5.out.cell 2
          have kl : w0.heap.size < w5.heap.size := HKB5.out.lt
          have hcm : cnt S.l - 2 < 1048576 := by have := HBUD.out; have := HI4.out.wf.bm; omega
          have HP := Lib.hid (hb_put w5.drew B q M (cnt S.l - 2) ((va : Int), (lo : Int), (hi : Int)) (kk : Int) HH5.out hB5 hcm)
          have HKP : Hid (∀ w', Kp TH B w5.drew w' → w'.cell? ⟨p, 4, none⟩ = some (.pointer (some ⟨q, 0, none⟩)) ∧ w'.cell? ⟨w0.heap.size, 0, none⟩ = some (.int .i64 (va : Int)) ∧ w'.cell? ⟨w0.heap.size, 1, none⟩ = some (.int .i64 (lo : Int)) ∧ w'.cell? ⟨w0.heap.size, 2, none⟩ = some (.int .i64 (hi : Int))) := by
            refine Lib.hid fun w' hk => ?_
            have h1 := hk.blk HKB5.out.drew_ rfl
            have h2 := hk.blk HR5.out.tab.drew_ rfl
            exact ⟨h2.cell 4, h1.cell 0, h1.cell 1, h1.cell 2⟩
          have HKP0 := Lib.hid (HKP.out _ (Kp.refl _ _ _))
          clear c4 k0 k1 k2 hcm
          go_region_held3 (fun w' => w'.cell? ⟨p, 4, none⟩ = some (.pointer (some ⟨q, 0, none⟩)) ∧ w'.cell? ⟨w0.heap.size, 0, none⟩ = some (.int .i64 (va : Int)) ∧ w'.cell? ⟨w0.heap.size, 1, none⟩ = some (.int .i64 (lo : Int)) ∧ w'.cell? ⟨w0.heap.size, 2, none⟩ = some (.int .i64 (hi : Int)))
            (first | with_reducible exact HKP.out _ hk6 | with_reducible exact HKP0.out) (first | (go_at_call 87; ((with_reducible refine HP.out.mono ?_); rintro e w6 ⟨rfl, hb6, hk6⟩)))
          have HR6 := Lib.hid ((HR5.out.below ((Below.refl _ _).drew : Below w5.heap.size w5 w5.drew)).kp hk6 rfl rfl rfl)
          have HH6 := Lib.hid hb6
          have HK6 : Hid (Kp TN B w w6) := Lib.hid (((HK4.out.trans (HK45.out.mono tn_ts (Nat.le_refl _))).trans (Kp.of_below (Below.refl _ _).drew)).trans (hk6.mono tn_hash (Nat.le_refl _)))
          have c5 : w6.cell? ⟨p, 5, none⟩ = some (.int .i64 (cnt S.l : Int)) := HR6.out.tab.cell 5
          have c6 : w6.cell? ⟨p, 6, none⟩ = some (.int .i64 (wr64 S.made)) := HR6.out.tab.cell 6
          have f5 : w6.frozen? ⟨p, 5, none⟩ = false := HR6.out.tab.frozen 5
          have f6 : w6.frozen? ⟨p, 6, none⟩ = false := HR6.out.tab.frozen 6
          have pl6 : p < w6.heap.size := HR6.out.tab.lt
          have hcm : cnt S.l ≤ 1048576 := by have := HBUD.out; have := HI4.out.wf.bm; omega
          clear hb6 hk6 HKP HKP0 HP
          go_wp2_with fail
          have hcn := cnt_put (ff_le S.l) (ff_is S.l) ⟨true, va, lo, hi, 0⟩ rfl
          have HR7 := Lib.hid (HR6.out.len_ ((cnt S.l : Int) + 1) (cnt (putN S.l (ff S.l) ⟨true, va, lo, hi, 0⟩)) (by rw [hcn]; rfl))
          refine (aadd_ok _ p 6 (wr64 S.made) (HR7.out.tab.cell 6) (HR7.out.tab.frozen 6)).mono ?_
          rintro e w8 ⟨rfl, rfl⟩
          go_wp2_with fail
          go_ret2
          obtain ⟨hva, hbl, hbh, hvl, hvh⟩ := HF.out
          have hmk : mkS S va lo hi = ({ S with l := putN S.l (ff S.l) ⟨true, va, lo, hi, 0⟩, made := S.made + 1 }, (ff S.l : Int), 0) := by unfold mkS; rw [HOK.out, if_pos rfl, if_neg (by have := HE.out; omega), HFN.out]; simp only [if_neg (Nat.not_le.2 HBUD.out), Int.toNat_natCast]
          have hwr := wr_succ S.made
          have hwf := HI4.out.wf.put hva HE.out hbl hbh hvl hvh HFN.out HBUD.out (S.made + 1)
          have hR8 := HR7.out.made_ (wrap64 (wr64 S.made + 1))
          rw [hwr] at hR8
          have hHB := HH6.out
          rw [HM.out] at hHB
          simp only [Option.isSome_none, Bool.false_eq_true, if_false] at hHB
          have hc2 := cnt_two HI4.out.wf
          rw [show cnt S.l - 2 + 1 = cnt (putN S.l (ff S.l) ⟨true, va, lo, hi, 0⟩) - 2 by rw [hcn]; omega, HKK.out] at hHB
          have k7 := HR6.out.kpp 5 (.int .i64 ((cnt S.l : Int) + 1))
          have k8 := HR7.out.kpp 6 (.int .i64 (wrap64 (wr64 S.made + 1)))
          rw [hwr] at k8
          rw [hwr]
          refine MkPost.mk hmk (by rw [← HKK.out]; rfl) ⟨g5, q, cap5, fa5, fc5, _, StRaw.stin hR8 hwf ((hHB.kp k7 rfl rfl).kp k8 rfl rfl) (HI4.out.rep.put (ff_le S.l) (ff_ge HI4.out.wf.two) (ff_is S.l) ⟨true, va, lo, hi, 0⟩ rfl HFN.out)⟩ ((HK6.out.trans (k7.mono tn_store (Nat.le_refl _))).trans (k8.mono tn_store (Nat.le_refl _)))
        | cons f t =>
          have hR4 := HI4.out.raw
          rw [hfr] at hR4 c3 hfrc hlenfr
          rw [List.length_cons] at c3 hfrc hlenfr
          obtain ⟨fb, fo, rfl, hfb, ft⟩ := hR4.top
          have HFR := Lib.hid hfr; have HR4 := Lib.hid hR4
          obtain ⟨n, hn⟩ : ∃ n, n = t.length := ⟨_, rfl⟩
          rw [← hn] at c3 hfrc hlenfr ft
          have HN := Lib.hid hn
          have hfc : n + 1 ≤ fc := hfrc.1
          have hff : ff S.l = f := by unfold ff; rw [hfr]; rfl
          have hfm := (frees_mem S.l f).1 (by rw [hfr]; simp)
          obtain ⟨gl4, x0, x1, x2, x3, x4⟩ := HI4.out.nd_ hfm.2.1
          have hfl : f < S.l.length := hfm.2.1
          have HFF := Lib.hid hff; have HFM := Lib.hid hfm
          have z0 := World.ownsRow.frozenAt HI4.out.row (f * 5)
          have z1 := World.ownsRow.frozenAt HI4.out.row (f * 5 + 1)
          have z2 := World.ownsRow.frozenAt HI4.out.row (f * 5 + 2)
          have z3 := World.ownsRow.frozenAt HI4.out.row (f * 5 + 3)
          have z4 := World.ownsRow.frozenAt HI4.out.row (f * 5 + 4)
          have hgp : g ≠ p := by obtain ⟨cs, hc, _⟩ := own_blk HI4.out.row; exact hc.ne HI4.out.tab (by decide)
          have hfp : fb ≠ p := by obtain ⟨cs, hc⟩ := HI4.out.frt fb fo none rfl; exact hc.ne HI4.out.tab (by decide)
          clear hfr hR4 hn hfrc hff hfm
          go_wp2_with fail
          generalize hw5 : (((((w4.setCell ⟨p, 3, none⟩ (.slice (some ⟨fb, fo, none⟩) n fc)).setCell ⟨g, f * 5, none⟩ (.bool true)).setCell ⟨g, f * 5 + 1, none⟩ (.int .i64 (va : Int))).setCell ⟨g, f * 5 + 2, none⟩ (.int .i64 (lo : Int))).setCell ⟨g, f * 5 + 3, none⟩ (.int .i64 (hi : Int))).setCell ⟨g, f * 5 + 4, none⟩ (.int .i64 0) = w5
          have HN5 := HR4.out.pop.node hfl ⟨true, va, lo, hi, 0⟩
          rw [← HN.out] at HN5
          have ep : putN S.l (ff S.l) ⟨true, va, lo, hi, 0⟩ = S.l.set f ⟨true, va, lo, hi, 0⟩ := by rw [HFF.out]; unfold putN; rw [if_pos hfl]
          have ef : frees (putN S.l (ff S.l) ⟨true, va, lo, hi, 0⟩) = t := by rw [frees_put _ rfl, HFR.out]; rfl
          have HR5' : Hid (∃ g5 cap5 fa5 fc5, StRaw w5 B p g5 q cap5 fa5 fc5 S.vars S.budget (putN S.l (ff S.l) ⟨true, va, lo, hi, 0⟩) (frees (putN S.l (ff S.l) ⟨true, va, lo, hi, 0⟩)) (cnt S.l) (wr64 S.made) (wr64 S.sweeps)) := by rw [← hw5, ep, ← ep, ef, ep]; exact Lib.hid ⟨_, _, _, _, HN5.1⟩
          have HK45 : Hid (Kp TS B w4 w5) := by
            rw [← hw5]
            have k1 := HR4.out.kpn 3 (.slice (some ⟨fb, fo, none⟩) n fc)
            exact Lib.hid (k1.trans (HN5.2.mono ts_one (Nat.le_refl _)))
          obtain ⟨g5, cap5, fa5, fc5, hR5⟩ := HR5'.out
          have HR5 := Lib.hid hR5
          obtain ⟨kk, hkk⟩ : ∃ kk, kk = f := ⟨_, rfl⟩
          have HKK : Hid (kk = ff S.l) := Lib.hid (by rw [hkk, HFF.out])
          rw [← hkk]
          clear hkk hR5 HR5' ep ef HN5 hw5 hfl hgp hfp x0 x1 x2 x3 x4 z0 z1 z2 z3 z4 gl4 ft c2 c3 f3 hlenfr hfc hfb pl4
          have c4 : w5.cell? ⟨p, 4, none⟩ = some (.pointer (some ⟨q, 0, none⟩)) := HR5.out.tab.cell 4
          have pl5 : p < w5.heap.size := HR5.out.tab.lt
          have HKB5 := Lib.hid (HK45.out.blk HKB4.out rfl)
          have HH5 := Lib.hid ((HI4.out.has.kp HK45.out rfl rfl).below ((Below.refl _ _).drew : Below w5.heap.size w5 w5.drew))
          have hB5 : B ≤ w5.heap.size := by have := HK45.out.size; omega
          have k0 : w5.cell? ⟨w0.heap.size, 0, none⟩ = some (.int .i64 (va : Int)) := HKB5.out.cell 0
          have k1 : w5.cell? ⟨w0.heap.size, 1, none⟩ = some (.int .i64 (lo : Int)) := HKB5.out.cell 1
          have k2 : w5.cell? ⟨w0.heap.size, 2, none⟩ = some (.int .i64 (hi : Int)) := HKB5.out.cell 2
          have kl : w0.heap.size < w5.heap.size := HKB5.out.lt
          have hcm : cnt S.l - 2 < 1048576 := by have := HBUD.out; have := HI4.out.wf.bm; omega
          have HP := Lib.hid (hb_put w5.drew B q M (cnt S.l - 2) ((va : Int), (lo : Int), (hi : Int)) (kk : Int) HH5.out hB5 hcm)
          have HKP : Hid (∀ w', Kp TH B w5.drew w' → w'.cell? ⟨p, 4, none⟩ = some (.pointer (some ⟨q, 0, none⟩)) ∧ w'.cell? ⟨w0.heap.size, 0, none⟩ = some (.int .i64 (va : Int)) ∧ w'.cell? ⟨w0.heap.size, 1, none⟩ = some (.int .i64 (lo : Int)) ∧ w'.cell? ⟨w0.heap.size, 2, none⟩ = some (.int .i64 (hi : Int))) := by
            refine Lib.hid fun w' hk => ?_
            have h1 := hk.blk HKB5.out.drew_ rfl
            have h2 := hk.blk HR5.out.tab.drew_ rfl
            exact ⟨h2.cell 4, h1.cell 0, h1.cell 1, h1.cell 2⟩
          have HKP0 := Lib.hid (HKP.out _ (Kp.refl _ _ _))
          clear c4 k0 k1 k2 hcm
          go_region_held3 (fun w' => w'.cell? ⟨p, 4, none⟩ = some (.pointer (some ⟨q, 0, none⟩)) ∧ w'.cell? ⟨w0.heap.size, 0, none⟩ = some (.int .i64 (va : Int)) ∧ w'.cell? ⟨w0.heap.size, 1, none⟩ = some (.int .i64 (lo : Int)) ∧ w'.cell? ⟨w0.heap.size, 2, none⟩ = some (.int .i64 (hi : Int)))
            (first | with_reducible exact HKP.out _ hk6 | with_reducible exact HKP0.out) (first | (go_at_call 87; ((with_reducible refine HP.out.mono ?_); rintro e w6 ⟨rfl, hb6, hk6⟩)))
          have HR6 := Lib.hid ((HR5.out.below ((Below.refl _ _).drew : Below w5.heap.size w5 w5.drew)).kp hk6 rfl rfl rfl)
          have HH6 := Lib.hid hb6
          have HK6 : Hid (Kp TN B w w6) := Lib.hid (((HK4.out.trans (HK45.out.mono tn_ts (Nat.le_refl _))).trans (Kp.of_below (Below.refl _ _).drew)).trans (hk6.mono tn_hash (Nat.le_refl _)))
          have c5 : w6.cell? ⟨p, 5, none⟩ = some (.int .i64 (cnt S.l : Int)) := HR6.out.tab.cell 5
          have c6 : w6.cell? ⟨p, 6, none⟩ = some (.int .i64 (wr64 S.made)) := HR6.out.tab.cell 6
          have f5 : w6.frozen? ⟨p, 5, none⟩ = false := HR6.out.tab.frozen 5
          have f6 : w6.frozen? ⟨p, 6, none⟩ = false := HR6.out.tab.frozen 6
          have pl6 : p < w6.heap.size := HR6.out.tab.lt
          have hcm : cnt S.l ≤ 1048576 := by have := HBUD.out; have := HI4.out.wf.bm; omega
          clear hb6 hk6 HKP HKP0 HP
          go_wp2_with fail
          have hcn := cnt_put (ff_le S.l) (ff_is S.l) ⟨true, va, lo, hi, 0⟩ rfl
          have HR7 := Lib.hid (HR6.out.len_ ((cnt S.l : Int) + 1) (cnt (putN S.l (ff S.l) ⟨true, va, lo, hi, 0⟩)) (by rw [hcn]; rfl))
          refine (aadd_ok _ p 6 (wr64 S.made) (HR7.out.tab.cell 6) (HR7.out.tab.frozen 6)).mono ?_
          rintro e w8 ⟨rfl, rfl⟩
          go_wp2_with fail
          go_ret2
          obtain ⟨hva, hbl, hbh, hvl, hvh⟩ := HF.out
          have hmk : mkS S va lo hi = ({ S with l := putN S.l (ff S.l) ⟨true, va, lo, hi, 0⟩, made := S.made + 1 }, (ff S.l : Int), 0) := by unfold mkS; rw [HOK.out, if_pos rfl, if_neg (by have := HE.out; omega), HFN.out]; simp only [if_neg (Nat.not_le.2 HBUD.out), Int.toNat_natCast]
          have hwr := wr_succ S.made
          have hwf := HI4.out.wf.put hva HE.out hbl hbh hvl hvh HFN.out HBUD.out (S.made + 1)
          have hR8 := HR7.out.made_ (wrap64 (wr64 S.made + 1))
          rw [hwr] at hR8
          have hHB := HH6.out
          rw [HM.out] at hHB
          simp only [Option.isSome_none, Bool.false_eq_true, if_false] at hHB
          have hc2 := cnt_two HI4.out.wf
          rw [show cnt S.l - 2 + 1 = cnt (putN S.l (ff S.l) ⟨true, va, lo, hi, 0⟩) - 2 by rw [hcn]; omega, HKK.out] at hHB
          have k7 := HR6.out.kpp 5 (.int .i64 ((cnt S.l : Int) + 1))
          have k8 := HR7.out.kpp 6 (.int .i64 (wrap64 (wr64 S.made + 1)))
          rw [hwr] at k8
          rw [hwr]
          refine MkPost.mk hmk (by rw [← HKK.out]; rfl) ⟨g5, q, cap5, fa5, fc5, _, StRaw.stin hR8 hwf ((hHB.kp k7 rfl rfl).kp k8 rfl rfl) (HI4.out.rep.put (ff_le S.l) (ff_ge HI4.out.wf.two) (ff_is S.l) ⟨true, va, lo, hi, 0⟩ rfl HFN.out)⟩ ((HK6.out.trans (k7.mono tn_store (Nat.le_refl _))).trans (k8.mono tn_store (Nat.le_refl _)))
end Go.Proofs.YtobhjkfkdkiigaaGreatDoor

namespace Go.Proofs.YtobhjkfkdkiigaaGreatDoor
open Go.RowKit HP NP
def base2 (v : Nat) : List Nd := [⟨true, v, 0, 0, 0⟩, ⟨true, v, 1, 1, 0⟩]
def newS (vars budget : Nat) : NS := ⟨vars, budget, base2 vars, 0, 0⟩
theorem newS_wf (vars budget : Nat) (h1 : vars ≤ 256) (h2 : 2 ≤ budget) (h3 : budget ≤ 1048576) : Wf (newS vars budget) := by
  have hno : ∀ k, 2 ≤ k → nd (base2 vars) k = Nd.no := fun k h => nd_ge (by simpa [base2] using h)
  refine ⟨by simp [newS, base2], h1, h2, h3, by simpa [newS, base2] using h2, ⟨0, rfl⟩, ⟨0, rfl⟩, fun k hk hb => ?_, fun j k hj _ bj _ _ => ?_, fun k hb => ?_, fun k => ?_⟩
  · unfold isB at hb; rw [show (newS vars budget).l = base2 vars from rfl, hno k hk] at hb; cases hb
  · unfold isB at bj; rw [show (newS vars budget).l = base2 vars from rfl, hno j hj] at bj; cases bj
  · rcases Nat.lt_or_ge k 2 with h | h
    · have : k = 0 ∨ k = 1 := by omega
      rcases this with rfl | rfl <;> cases hb
    · exact hno k h
  · rcases Nat.lt_or_ge k 2 with h | h
    · have : k = 0 ∨ k = 1 := by omega
      rcases this with rfl | rfl <;> exact Nat.zero_le _
    · show (nd (base2 vars) k).pins ≤ _
      rw [hno k h]; exact Nat.zero_le _
theorem newS_says (vars budget : Nat) : Says (newS vars budget).l (fun _ => none) := fun c v => by
  constructor
  · intro h; cases h
  · rintro ⟨k, ⟨h2, hb, _⟩, _⟩
    unfold isB at hb
    rw [show (newS vars budget).l = base2 vars from rfl, nd_ge (by simpa [base2] using h2)] at hb; cases hb
theorem newS_cnt (vars budget : Nat) : cnt (newS vars budget).l = 2 := rfl
theorem newS_frees (vars budget : Nat) : frees (newS vars budget).l = [] := rfl
theorem base2_snoc (v k : Nat) (h : k < 2) : (base2 v).take (k + 1) = (base2 v).take k ++ [⟨true, v, k, k, 0⟩] := by
  have : k = 0 ∨ k = 1 := by omega
  rcases this with rfl | rfl <;> rfl
theorem nd_ones (x : Nd) : ∀ u ∈ ndCells x, u.oneCell' = true := by
  intro u hu; simp [ndCells] at hu; rcases hu with rfl | rfl | rfl | rfl | rfl <;> rfl
/-- New's two rounds -/
def NewR (w wr : World) (B p q vars budget k : Nat) : Prop := ∃ v, Blk wr p 68 #[.int .i64 (vars : Int), .int .i64 (budget : Int), v, .slice none 0 0, .pointer (some ⟨q, 0, none⟩), .int .i64 2, .int .i64 0, .int .i64 0] ∧ wr.ownsRow w.heap.size 70 5 v k (((base2 vars).take k).flatMap ndCells) ∧ HB wr B q (fun _ => none) 0 ∧ Below w.heap.size w wr
def okNew (vars budget : Int) : Bool := decide (0 ≤ vars) && (decide (vars ≤ 256) && (decide (2 ≤ budget) && decide (budget ≤ 1048576)))
def NNewPost (B : Nat) (vars budget : Int) (w : World) (e : Ending) (w' : World) : Prop :=
  (okNew vars budget = true ∧ ∃ p, e = .returned (.tuple #[.pointer (some ⟨p, 0, none⟩), .int .i64 0]) ∧ Sto w' B p (newS vars.toNat budget.toNat) ∧ Below w.heap.size w w' ∧ w.heap.size ≤ p) ∨ (okNew vars budget = false ∧ e = .returned (.tuple #[.pointer none, .int .i64 1]) ∧ w = w')
set_option maxRecDepth 100000 in
set_option maxHeartbeats 2000000 in
theorem nnew_yes (w : World) (B : Nat) (hB : B ≤ w.heap.size) (vars budget : Nat) (h1 : vars ≤ 256) (h2 : 2 ≤ budget) (h3 : budget ≤ 1048576) :
    Calls Tryz.prog 4 #[.int .i64 (vars : Int), .int .i64 (budget : Int)] w fun e w' => ∃ p, e = .returned (.tuple #[.pointer (some ⟨p, 0, none⟩), .int .i64 0]) ∧ Sto w' B p (newS vars budget) ∧ Below w.heap.size w w' ∧ w.heap.size ≤ p := by
  have HWF := Lib.hid (newS_wf vars budget h1 h2 h3)
  have d0 : decide ((vars : Int) < 0) = false := decide_eq_false (by omega)
  have d1 : decide ((256 : Int) < (vars : Int)) = false := decide_eq_false (by omega)
  have d1' : decide (256 < vars) = false := decide_eq_false (by omega)
  have d2 : decide ((budget : Int) < 2) = false := decide_eq_false (by omega)
  have d2' : decide (budget < 2) = false := decide_eq_false (by omega)
  have d3 : decide ((1048576 : Int) < (budget : Int)) = false := decide_eq_false (by omega)
  have d3' : decide (1048576 < budget) = false := decide_eq_false (by omega)
  clear h1 h2 h3
  go_enter Tryz.func4, Tryz.ntmps4
  go_wp2_with fail
  refine (hb_new w B hB).mono ?_
  rintro e w1 ⟨q, rfl, hb1, hbel⟩
  have HH := Lib.hid hb1; have HB1 := Lib.hid hbel
  have hB1 : B ≤ w1.heap.size := by have := hbel.size; omega
  clear hb1 hbel d0 d1 d1' d2 d2' d3 d3'
  go_wp2_with fail
  go_loopg [27] 2 (fun m x wr => ∃ k : Nat, m + k = 2 ∧ x = .int .i64 (k : Int) ∧ NewR w wr B w1.heap.size q vars budget k)
  case atStart =>
    exact ⟨0, rfl, rfl, _, Blk.new_ _ _ _, World.ownsRow_nil _ _ _ _, HH.out.below ((Below.refl _ _).alloc (Nat.le_refl _) _), HB1.out.alloc HB1.out.size _⟩
  case round =>
    obtain ⟨k, hm, rfl, v, hp, hown, hh, hbel⟩ := hrel
    have HP := Lib.hid hp; have HO := Lib.hid hown; have HH2 := Lib.hid hh; have HBE := Lib.hid hbel; have HM := Lib.hid hm
    have c2 := hp.cell 2
    simp at c2
    have hpl : w1.heap.size < wr.heap.size := hp.lt
    have f2 : wr.frozen? ⟨w1.heap.size, 2, none⟩ = false := hp.frozen 2
    have hBr : w.heap.size ≤ wr.heap.size := hbel.size
    clear hp hown hh hbel hm
    by_cases hk : k < 2
    · obtain ⟨i0, hi0, hz0, hz1, hz2⟩ := info_parts info_one
      have hne : (some w1.heap.size) ≠ v.ownBlock := own_ne_blk HO.out HP.out (by decide)
      have HNE := Lib.hid hne
      clear hne
      go_wp2_with (at_builtin; refine wpList_append_src rfl (.tmp 34) (.tmp 39) 61 rfl w.heap.size 70 i0 (.agg #[.bool false, .int .i64 0, .int .i64 0, .int .i64 0, .int .i64 0]) 5 40 Tryz.underlying61 hi0 hz0 hz1 hz2 rfl (by decide) v k _ rfl (HO.out.alloc _) (some ⟨wr.heap.size, 0, none⟩) 1 1 (ndCells ⟨true, vars, k, k, 0⟩) rfl rfl (Cells.lit _ _ _) (nd_ones _) (by unfold maxLen; omega) (by omega) (by simp; omega) ?_)
      intro v' w2 hown hg _
      obtain ⟨g', cap', rfl⟩ := own_some hown (by omega)
      have hp2 := (HP.out.alloc_ (.cells (ndCells ⟨true, vars, k, k, 0⟩).toArray 70)).grown hg HNE.out
      have HP2 := Lib.hid hp2; have HO2 := Lib.hid hown; have HG := Lib.hid hg
      have c2' : w2.cell? ⟨w1.heap.size, 2, none⟩ = some v := hp2.cell 2
      have f2' : w2.frozen? ⟨w1.heap.size, 2, none⟩ = false := hp2.frozen 2
      have hpl2 : w1.heap.size < w2.heap.size := hp2.lt
      clear hown hg hp2 c2 f2
      go_wp2_with fail
      go_roundg (2 - (k + 1))
      case measure => have := HM.out; omega
      case rel =>
        have kp1 : Kp (fun t => t == 70) w.heap.size (wr.alloc (.cells (ndCells ⟨true, vars, k, k, 0⟩).toArray 70)) w2 := Kp.grown HG.out (fun j e _ => by
          obtain ⟨hj1, hj2⟩ := HO.out.lt j e
          rcases HO.out.2 with ⟨rfl, _⟩ | ⟨gg, cp, cur, rfl, hBg, hgg, _⟩
          · cases e
          · injection e with e; subst e
            exact ⟨hBg, cur, _, _, (Below.heap_alloc wr _ _ hj2).trans hgg, by rfl⟩)
        have kp2 : Kp (fun t => t == 68) w.heap.size w2 (w2.setCell ⟨w1.heap.size, 2, none⟩ (.slice (some ⟨g', 0, none⟩) (k + 1) cap')) := Kp.set HP2.out (by rfl) HB1.out.size _ _
        refine ⟨k + 1, by have := HM.out; omega, by go_num, _, HP2.out.set_ 2 _, ?_, ?_, ?_⟩
        · rw [base2_snoc _ _ hk, List.flatMap_append]
          have := own_kp HO2.out kp2 rfl
          simpa using this
        · exact ((HH2.out.below ((Below.refl _ _).alloc (Nat.le_refl _) _)).kp kp1 rfl rfl).kp kp2 rfl rfl
        · refine ((HBE.out.alloc HBE.out.size _).grown HG.out (by have := HBE.out.size; simp; omega) (fun j hj => (HO.out.lt j hj).1)).setCell (by have := HB1.out.size; exact this) _
    · have hk2 : k = 2 := by have := HM.out; omega
      subst hk2
      go_wp2_with fail
      go_ret2
      obtain ⟨g, cap, rfl⟩ := own_some HO.out (by omega)
      refine ⟨w1.heap.size, rfl, ⟨g, q, cap, none, 0, fun _ => none, ?_⟩, HBE.out, HB1.out.size⟩
      have e0 : wr64 0 = 0 := by simp [wr64, wrap64]
      have hp : Blk wr w1.heap.size 68 #[.int .i64 (vars : Int), .int .i64 (budget : Int), .slice (some ⟨g, 0, none⟩) 2 cap, .slice none 0 0, .pointer (some ⟨q, 0, none⟩), .int .i64 2, .int .i64 (wr64 0), .int .i64 (wr64 0)] := by rw [e0]; exact HP.out
      exact ⟨HWF.out, hB1, hp, own_base HO.out hB, Cells.nil _ _, TB.nil _ _, ⟨Nat.le_refl _, by unfold maxLen; omega⟩, HH2.out, newS_says _ _⟩
theorem nnew_ok (w : World) (B : Nat) (hB : B ≤ w.heap.size) (vars budget : Int) : Calls Tryz.prog 4 #[.int .i64 vars, .int .i64 budget] w (NNewPost B vars budget w) := by
  cases hok : okNew vars budget with
  | true =>
    have hok' := hok
    unfold okNew at hok'
    simp only [Bool.and_eq_true, decide_eq_true_eq] at hok'
    obtain ⟨v, rfl⟩ : ∃ v : Nat, vars = (v : Int) := ⟨vars.toNat, by omega⟩
    obtain ⟨b, rfl⟩ : ∃ b : Nat, budget = (b : Int) := ⟨budget.toNat, by omega⟩
    exact (nnew_yes w B hB v b (by omega) (by omega) (by omega)).mono fun _ _ h => .inl ⟨hok, h⟩
  | false =>
    have hok' := hok
    unfold okNew at hok'
    simp only [Bool.and_eq_false_iff, decide_eq_false_iff_not] at hok'
    have HOK := Lib.hid hok
    clear hok
    have fin : ∀ w', w = w' → NNewPost B vars budget w (.returned (.tuple #[.pointer none, .int .i64 1])) w' := fun w' h => .inr ⟨HOK.out, rfl, h⟩
    have FIN := Lib.hid fin
    clear fin
    have hc : (vars < 0) ∨ (¬ vars < 0 ∧ 256 < vars) ∨ (¬ vars < 0 ∧ ¬ 256 < vars ∧ budget < 2) ∨ (¬ vars < 0 ∧ ¬ 256 < vars ∧ ¬ budget < 2 ∧ 1048576 < budget) := by omega
    clear hok'
    rcases hc with h1 | ⟨h1, h2⟩ | ⟨h1, h2, h3⟩ | ⟨h1, h2, h3, h4⟩
    · have d1 := decide_eq_true h1
      clear h1
      go_enter Tryz.func4, Tryz.ntmps4
      go_wp2_with fail
      go_ret2
      exact FIN.out _ rfl
    · have d1 := decide_eq_false h1; have d2 := decide_eq_true h2
      clear h1 h2
      go_enter Tryz.func4, Tryz.ntmps4
      go_wp2_with fail
      go_ret2
      exact FIN.out _ rfl
    · have d1 := decide_eq_false h1; have d2 := decide_eq_false h2; have d3 := decide_eq_true h3
      clear h1 h2 h3
      go_enter Tryz.func4, Tryz.ntmps4
      go_wp2_with fail
      go_ret2
      exact FIN.out _ rfl
    · have d1 := decide_eq_false h1; have d2 := decide_eq_false h2; have d3 := decide_eq_false h3; have d4 := decide_eq_true h4
      clear h1 h2 h3 h4
      go_enter Tryz.func4, Tryz.ntmps4
      go_wp2_with fail
      go_ret2
      exact FIN.out _ rfl
end Go.Proofs.YtobhjkfkdkiigaaGreatDoor

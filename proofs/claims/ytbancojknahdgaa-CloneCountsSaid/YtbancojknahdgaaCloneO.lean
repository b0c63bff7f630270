/- CloneCounts' walk: the walker's contract (walk_okC), and the law. -/
import Derived.Test.YtbancojknahdgaaCloneI
import Derived.Test.YtbancojknahdgaaCloneV
import Derived.Deep.RegionHeld3
namespace Go.Proofs.Ytbancojknahdgaa
open Go.RowKit CP
/-- the walker in memory -/
structure WK (w0 w : World) (n L p bc : Nat) (v1 v2 v3 v4 : Value) (f : Nat → Nat) (left : Nat) : Prop where
  bel : Below w0.heap.size w0 w
  pb : Blk w p 47 #[v1, v2, v3, v4, .slice (some ⟨bc, 0, none⟩) n n, .int .i64 (left : Int)]
  cb : Blk w bc 3 (tabI n f)
  lp : w0.heap.size ≤ p
  lc : w0.heap.size ≤ bc
  bnd : ∀ v, v < n → f v + left ≤ 2000
theorem WK.below {w0 w w' : World} {n L p bc : Nat} {v1 v2 v3 v4 : Value} {f : Nat → Nat} {left : Nat} (h : WK w0 w n L p bc v1 v2 v3 v4 f left) (hb : Below w.heap.size w w') : WK w0 w' n L p bc v1 v2 v3 v4 f left :=
  ⟨h.bel.trans (hb.mono h.bel.size), h.pb.below hb h.pb.lt, h.cb.below hb h.cb.lt, h.lp, h.lc, h.bnd⟩
theorem WK.ne {w0 w : World} {n L p bc : Nat} {v1 v2 v3 v4 : Value} {f : Nat → Nat} {left : Nat} (h : WK w0 w n L p bc v1 v2 v3 v4 f left) : p ≠ bc := Blk.ne h.pb h.cb (by decide)
/-- what a walk leaves -/
structure WkO (p bc : Nat) (w w' : World) : Prop where
  only : Only (fun b => b = p ∨ b = bc) w w'
def WkPost (w0 w : World) (n L p bc : Nat) (v1 v2 v3 v4 : Value) (F T : Nat → Nat) (M a : Nat) (f : Nat → Nat) (e : Ending) (w' : World) : Prop :=
  ∃ (ok : Bool) (f' : Nat → Nat) (left' : Nat), e = .returned (.bool ok) ∧ WK w0 w' n L p bc v1 v2 v3 v4 f' left' ∧ Only (fun b => b = p ∨ b = bc) w w' ∧ (ok = true → ∀ v, v < M → f' v = f v + cntF F T L a M v)
/-- one visit more -/
theorem WK.visit {w0 w : World} {n L p bc : Nat} {v1 v2 v3 v4 : Value} {f : Nat → Nat} {left a : Nat} (h : WK w0 w n L p bc v1 v2 v3 v4 f (left + 1)) (ha : a < n) :
    WK w0 ((w.setCell ⟨p, 5, none⟩ (.int .i64 (left : Int))).setCell ⟨bc, a, none⟩ (.int .i64 ((f a + 1 : Nat) : Int))) n L p bc v1 v2 v3 v4 (fup f a (f a + 1)) left := by
  refine ⟨(h.bel.setCell h.lp _).setCell h.lc _, (h.pb.set_ 5 (.int .i64 (left : Int))).far h.ne _, ?_, h.lp, h.lc, fun v hv => ?_⟩
  · have := (h.cb.far (p := ⟨p, 5, none⟩) h.ne.symm (.int .i64 (left : Int))).set_ a (.int .i64 ((f a + 1 : Nat) : Int))
    rw [tabI_set _ ha] at this; exact this
  · have := h.bnd v hv
    by_cases e : v = a
    · subst e; rw [fup_same]; omega
    · rw [fup_ne _ _ e]; omega
section
variable {w0 : World} {n L M : Nat} {es : List (Int × Int × Int)} {cs : List Int} {F T : Nat → Nat} {a1 a3 : Option Addr} {c1 c3 : Nat} {v2 v4 : Value}
set_option maxRecDepth 100000 in
set_option maxHeartbeats 12800000 in
theorem walk_okC (hU : Up F T L M) (hMn : M ≤ n) (hn : n ≤ 1024) (hL : L ≤ 16384) (hcs : Cells w0 a1 (zV cs)) (hes : Cells w0 a3 (es.flatMap keyCells))
    (hed : ∀ i, i < L → ∃ a e d : Nat, es[i]? = some ((a : Int), (e : Int), (d : Int)) ∧ a < n ∧ d < n ∧ cs[a]? = some (F i : Int) ∧ cs[d]? = some (T i : Int)) :
    ∀ (d : Nat) (w : World) (p bc : Nat) (f : Nat → Nat) (left a : Nat), M - a ≤ d → a < M → WK w0 w n L p bc (.slice a1 n c1) v2 (.slice a3 L c3) v4 f left →
      Calls Try.prog 27 #[.pointer (some ⟨p, 0, none⟩), .int .i64 (a : Int)] w (WkPost w0 w n L p bc (.slice a1 n c1) v2 (.slice a3 L c3) v4 F T M a f)
  | 0, _, _, _, _, _, _, h1, h2, _ => absurd h1 (by omega)
  | d + 1, w, p, bc, f, left, a, hd, ha, hW => by
    have IH := Lib.hid (walk_okC hU hMn hn hL hcs hes hed d)
    have HU := Lib.hid hU; have HCS := Lib.hid hcs; have HES := Lib.hid hes; have HED := Lib.hid hed; have HW := Lib.hid hW
    have han : a < n := by omega
    have p5 : w.cell? ⟨p, 5, none⟩ = some (.int .i64 (left : Int)) := hW.pb.cell 5
    have p4 : w.cell? ⟨p, 4, none⟩ = some (.slice (some ⟨bc, 0, none⟩) n n) := hW.pb.cell 4
    have f5 := hW.pb.frozen 5
    have pl := hW.pb.lt
    have ca := (hW.cb.cell a).trans (tabI_get _ han)
    have cf := hW.cb.frozen a
    have cl := hW.cb.lt
    have hbd := hW.bnd a han
    have hpc := hW.ne
    clear hU hcs hes hed hW
    by_cases hl0 : left = 0
    · subst hl0
      have d1 : (((0 : Nat) : Int) == 0) = true := rfl
      go_enter Try.func27, Try.ntmps27
      go_wp2_with fail
      go_ret
      exact ⟨false, f, 0, rfl, HW.out, Only.refl _ _, fun h => by cases h⟩
    obtain ⟨lf, rfl⟩ : ∃ lf, left = lf + 1 := ⟨left - 1, by omega⟩
    obtain ⟨fa, hfa⟩ : ∃ fa, f a = fa := ⟨_, rfl⟩
    have HV := Lib.hid (HW.out.visit han)
    rw [hfa] at ca hbd HV
    have hfi : (fa : Int) + 1 = ((fa + 1 : Nat) : Int) := by omega
    obtain ⟨fb, hfb⟩ : ∃ fb, fa + 1 = fb := ⟨_, rfl⟩
    rw [hfb] at hfi HV
    have d1 : (((lf + 1 : Nat) : Int) == 0) = false := by rw [beq_eq_false_iff_ne]; omega
    obtain ⟨l1, hl1⟩ : ∃ l1, lf + 1 = l1 := ⟨_, rfl⟩
    have hli : (l1 : Int) - 1 = (lf : Int) := by omega
    have hlb : l1 ≤ 2000 := by omega
    have hfab : fa ≤ 2000 := by omega
    have d2 : (l1 == 0) = false := by rw [beq_eq_false_iff_ne]; omega
    rw [hl1] at p5 d1
    have HFA := Lib.hid hfa; have HFB := Lib.hid hfb; have HDD := Lib.hid hd
    clear hfa hfb hl1 hl0 hbd hd
    go_enter Try.func27, Try.ntmps27
    go_upto_region 5 with (fail)
    obtain ⟨w1, hw1⟩ : ∃ w1, w1 = (w.setCell ⟨p, 5, none⟩ (.int .i64 (lf : Int))).setCell ⟨bc, a, none⟩ (.int .i64 (fb : Int)) := ⟨_, rfl⟩
    have HO1 : Hid (Only (fun b => b = p ∨ b = bc) w w1) := Lib.hid (by rw [hw1]; exact ((Only.refl _ _).setCell (fun _ => .inl rfl) _).setCell (fun _ => .inr rfl) _)
    rw [← hw1] at HV ⊢
    have HG0 : Hid (∀ v, v < M → fup f a fb v = f v + (if v = a then 1 else 0) + outW F T L M a v 0) := Lib.hid (fun v _ => by
      by_cases e : v = a
      · subst e; rw [fup_same, if_pos rfl, ← HFB.out, ← HFA.out]; rfl
      · rw [fup_ne _ _ e, if_neg e]; rfl)
    clear hw1 p5 p4 f5 pl ca cf cl hfi hli hlb hfab d1 d2
    go_wp2_with fail
    go_loopg [5] L (fun mm x wr => ∃ (i : Nat) (g : Nat → Nat) (lg : Nat), mm + i = L ∧ x = .int .i64 (i : Int) ∧ WK w0 wr n L p bc (.slice a1 n c1) v2 (.slice a3 L c3) v4 g lg ∧ Only (fun b => b = p ∨ b = bc) w wr ∧ ∀ v, v < M → g v = f v + (if v = a then 1 else 0) + outW F T L M a v i)
    case atStart => exact ⟨0, _, lf, by omega, rfl, HV.out, HO1.out, HG0.out⟩
    case round =>
      obtain ⟨i, g, lg, hm, rfl, hwk, ho, hg⟩ := hrel
      have HM := Lib.hid hm; have HWK := Lib.hid hwk; have HO := Lib.hid ho; have HGG := Lib.hid hg
      have p2 : wr.cell? ⟨p, 2, none⟩ = some (.slice a3 L c3) := hwk.pb.cell 2
      have pl := hwk.pb.lt
      clear hm hwk ho hg HV HO1 HG0
      by_cases hi : i < L
      · obtain ⟨x, e, y, hx, hxn, hyn, hzx, hzy⟩ := HED.out i hi
        obtain ⟨b8, o8, rfl, hl8, t0, t1, t2⟩ := (HES.out.below HWK.out.bel).key hx
        simp only at t0 t1 t2
        obtain ⟨w4, hw4⟩ : ∃ w4, w4 = wr.alloc (.cells #[.int .i64 (x : Int), .int .i64 (e : Int), .int .i64 (y : Int)] 50) := ⟨_, rfl⟩
        obtain ⟨gx, hgx⟩ : ∃ gx, gx = wr.heap.size := ⟨_, rfl⟩
        have hb4 : Below wr.heap.size wr w4 := by rw [hw4]; exact (Below.refl _ _).alloc (Nat.le_refl _) _
        have kx : Blk w4 gx 50 #[.int .i64 (x : Int), .int .i64 (e : Int), .int .i64 (y : Int)] := by rw [hw4, hgx]; exact Blk.new_ _ _ _
        have HWK4 := Lib.hid (HWK.out.below hb4)
        have HO4 : Hid (Only (fun b => b = p ∨ b = bc) w w4) := Lib.hid (by rw [hw4]; exact HO.out.alloc _)
        obtain ⟨b9, o9, rfl, hl9, ya⟩ := (HCS.out.below HWK4.out.bel).at_ (zV_at hzx)
        obtain ⟨b9, o9, e9, _, yd⟩ := (HCS.out.below HWK4.out.bel).at_ (zV_at hzy)
        injection e9 with e9
        injection e9 with e9 e10 _
        subst e9 e10
        have hb9 : b9 < w0.heap.size := by
          obtain ⟨b, o, e, h, _⟩ := HCS.out.at_ (zV_at hzx)
          injection e with e
          injection e with e _ _
          rw [e]; exact h
        have q0 : w4.cell? ⟨p, 0, none⟩ = some (.slice (some ⟨b9, o9, none⟩) n c1) := HWK4.out.pb.cell 0
        have ql := HWK4.out.pb.lt
        have x0 : w4.cell? ⟨gx, 0, none⟩ = some (.int .i64 (x : Int)) := kx.cell 0
        have x2 : w4.cell? ⟨gx, 2, none⟩ = some (.int .i64 (y : Int)) := kx.cell 2
        have xl := kx.lt
        have HNX : Hid (∀ v, outW F T L M a v (i + 1) = outW F T L M a v i + (if F i = a ∧ T i ≠ a then cntF F T L (T i) M v else 0)) := Lib.hid (fun v => outW_next _ _ _ _ _ _ _)
        have HUI := Lib.hid (HU.out i hi)
        have hgp : gx ≠ p := by have := HWK.out.pb.lt; omega
        have hgb : gx ≠ bc := by have := HWK.out.cb.lt; omega
        have hlp := HWK.out.lp; have hlc := HWK.out.lc
        have hkb : ∀ W, Only (fun b => b = p ∨ b = bc) w4 W → W.cell? ⟨p, 0, none⟩ = some (.slice (some ⟨b9, o9, none⟩) n c1) → W.cell? ⟨p, 0, none⟩ = some (.slice (some ⟨b9, o9, none⟩) n c1) ∧ W.cell? ⟨gx, 0, none⟩ = some (.int .i64 (x : Int)) ∧ W.cell? ⟨gx, 2, none⟩ = some (.int .i64 (y : Int)) ∧ W.cell? ⟨b9, o9 + x, none⟩ = some (.int .i64 (F i : Int)) ∧ W.cell? ⟨b9, o9 + y, none⟩ = some (.int .i64 (T i : Int)) := fun W hW hp =>
          ⟨hp, (hW.cell (p := ⟨gx, 0, none⟩) xl (by intro h; rcases h with h | h; exact hgp h; exact hgb h)).trans x0, (hW.cell (p := ⟨gx, 2, none⟩) xl (by intro h; rcases h with h | h; exact hgp h; exact hgb h)).trans x2, (hW.cell (p := ⟨b9, o9 + x, none⟩) hl9 (by simp only; omega)).trans ya, (hW.cell (p := ⟨b9, o9 + y, none⟩) hl9 (by simp only; omega)).trans yd⟩
        have HKS := Lib.hid hkb
        have hfL : F i = a → T i ≠ a → T i < M ∧ M - T i ≤ d := fun h1 h2 => by have := HUI.out; have := HDD.out; omega
        have HIH : Hid (F i = a → T i ≠ a → Calls Try.prog 27 #[.pointer (some ⟨p, 0, none⟩), .int .i64 (T i : Int)] w4.drew (WkPost w0 w4.drew n L p bc (.slice (some ⟨b9, o9, none⟩) n c1) v2 (.slice (some ⟨b8, o8, none⟩) L c3) v4 F T M (T i) g)) := Lib.hid (fun h1 h2 => IH.out w4.drew p bc g lg (T i) (hfL h1 h2).2 (hfL h1 h2).1 (HWK4.out.below (Below.refl _ _).drew))
        obtain ⟨fi, hfi⟩ : ∃ fi, F i = fi := ⟨_, rfl⟩
        obtain ⟨ti, hti⟩ : ∃ ti, T i = ti := ⟨_, rfl⟩
        rw [hfi, hti] at HNX HIH HKS
        rw [hfi] at ya
        rw [hti] at yd
        have HW4 := Lib.hid hw4; have HGX := Lib.hid hgx
        clear hx hzx hzy hw4 hgx hb4 kx hkb hfL hfi hti hlp hlc hgp hgb
        go_upto_region 9 with (fail)
        rw [← HW4.out]
        try rw [← HGX.out]
        clear t0 t1 t2 hl8 p2 pl
        by_cases h1 : fi = a
        · by_cases h2 : ti = a
          · have HN2 : Hid (∀ v, v < M → g v = f v + (if v = a then 1 else 0) + outW F T L M a v (i + 1)) := Lib.hid (fun v hv => by
              have e := HNX.out v
              rw [if_neg (fun h => h.2 h2)] at e
              rw [e, Nat.add_zero]; exact HGG.out v hv)
            have z1 : ((fi : Int) == (a : Int)) = true := by rw [beq_iff_eq]; omega
            have z1' : (fi == a) = true := by rw [beq_iff_eq]; exact h1
            have z2 : ((ti : Int) != (a : Int)) = false := by rw [bne_eq_false_iff_eq]; omega
            have z2' : (ti != a) = false := by rw [bne_eq_false_iff_eq]; exact h2
            clear h1 h2
            go_quiet (fail)
            go_wp2_with fail
            go_roundg (L - (i + 1))
            case measure => have := HM.out; omega
            case rel => exact ⟨i + 1, g, lg, by have := HM.out; omega, by go_num, HWK4.out.below (drew_below _ _), HO4.out.drewN _, HN2.out⟩
          · have HCALL := Lib.hid (HIH.out h1 h2)
            have HN2 : Hid (∀ v, outW F T L M a v (i + 1) = outW F T L M a v i + cntF F T L ti M v) := Lib.hid (fun v => by rw [HNX.out v, if_pos ⟨h1, h2⟩])
            have z1 : ((fi : Int) == (a : Int)) = true := by rw [beq_iff_eq]; omega
            have z1' : (fi == a) = true := by rw [beq_iff_eq]; exact h1
            have z2 : ((ti : Int) != (a : Int)) = true := by rw [bne_iff_ne]; omega
            have z2' : (ti != a) = true := by rw [bne_iff_ne]; exact h2
            have HOD : Hid (Only (fun b => b = p ∨ b = bc) w4 w4.drew) := Lib.hid (Only.refl _ _).drew
            have HQ0 : Hid (w4.drew.cell? ⟨p, 0, none⟩ = some (.slice (some ⟨b9, o9, none⟩) n c1)) := Lib.hid q0
            clear h1 h2 HIH HNX
            go_region_held3 (fun W => W.cell? ⟨p, 0, none⟩ = some (.slice (some ⟨b9, o9, none⟩) n c1) ∧ W.cell? ⟨gx, 0, none⟩ = some (.int .i64 (x : Int)) ∧ W.cell? ⟨gx, 2, none⟩ = some (.int .i64 (y : Int)) ∧ W.cell? ⟨b9, o9 + x, none⟩ = some (.int .i64 (fi : Int)) ∧ W.cell? ⟨b9, o9 + y, none⟩ = some (.int .i64 (ti : Int)))
              (first | with_reducible exact HKS.out _ HO5.out HP5.out | with_reducible exact HKS.out _ HOD.out HQ0.out) ((go_at_call 27; ((with_reducible refine HCALL.out.mono ?_); rintro e w5 ⟨ok, g2, l2, rfl, hw5, ho5, hok⟩; have HO5 := Lib.hid (HOD.out.trans ho5 (fun _ _ h => h)); have HP5 : Hid (w5.cell? ⟨p, 0, none⟩ = some (.slice (some ⟨b9, o9, none⟩) n c1)) := Lib.hid (hw5.pb.cell 0); have HW5 := Lib.hid (And.intro hw5 hok); clear hw5 ho5 hok)))
            all_goals
              have HO6 := Lib.hid (HO4.out.trans HO5.out (fun _ _ h => h))
              cases ok with
              | false =>
                go_wp2_with fail
                go_ret
                exact ⟨false, g2, l2, rfl, HW5.out.1, HO6.out, fun h => by cases h⟩
              | true =>
                have HN3 : Hid (∀ v, v < M → g2 v = f v + (if v = a then 1 else 0) + outW F T L M a v (i + 1)) := Lib.hid (fun v hv => by
                  rw [HW5.out.2 rfl v hv, HGG.out v hv, HN2.out v]; omega)
                go_wp2_with fail
                go_roundg (L - (i + 1))
                case measure => have := HM.out; omega
                case rel => exact ⟨i + 1, g2, l2, by have := HM.out; omega, by go_num, HW5.out.1, HO6.out, HN3.out⟩
        · have HN2 : Hid (∀ v, v < M → g v = f v + (if v = a then 1 else 0) + outW F T L M a v (i + 1)) := Lib.hid (fun v hv => by
            have e := HNX.out v
            rw [if_neg (fun h => h1 h.1)] at e
            rw [e, Nat.add_zero]; exact HGG.out v hv)
          have z1 : ((fi : Int) == (a : Int)) = false := by rw [beq_eq_false_iff_ne]; omega
          have z1' : (fi == a) = false := by rw [beq_eq_false_iff_ne]; exact h1
          clear h1
          go_quiet (fail)
          go_wp2_with fail
          go_roundg (L - (i + 1))
          case measure => have := HM.out; omega
          case rel => exact ⟨i + 1, g, lg, by have := HM.out; omega, by go_num, HWK4.out.below (drew_below _ _), HO4.out.drewN _, HN2.out⟩
      · have hiL : i = L := by have := HM.out; omega
        have HFIN : Hid (∀ v, v < M → g v = f v + cntF F T L a M v) := Lib.hid (fun v hv => by
          rw [HGG.out v hv, hiL, cnt_first HU.out a v hv]; omega)
        clear hiL
        go_wp2_with fail
        go_ret
        exact ⟨true, g, lg, rfl, HWK.out, HO.out, fun _ => HFIN.out⟩
end
end Go.Proofs.Ytbancojknahdgaa

/- Layer 6: the two closures of count.Sat: where a node stands (level), for how many values it says true (walk). -/
import Derived.Test.YtobhjkfkdkiigaaGreatDoorCountB
import Derived.Test.YtobhjkfkdkiigaaGreatDoorCountJ
import Derived.Test.YtobhjkfkdkiigaaGreatDoorArith
import Derived.Deep.RegionHeld3
import Derived.IntWalk
namespace Go.Proofs.YtobhjkfkdkiigaaGreatDoor
open Go.RowKit HP NP
def lvC (vb sb ab : Nat) : Value := .func (.func 123) #[] #[.pointer (some ⟨vb, 0, none⟩), .pointer (some ⟨sb, 0, none⟩), .pointer (some ⟨ab, 0, none⟩)]
def satC (mb sb lb wb : Nat) : Value := .func (.func 124) #[] #[.pointer (some ⟨mb, 0, none⟩), .pointer (some ⟨sb, 0, none⟩), .pointer (some ⟨lb, 0, none⟩), .pointer (some ⟨wb, 0, none⟩)]
/-- where a variable stands -/
def lvO (m : Nat → Option Nat) (v : Nat) : Nat := (m v).getD 0
structure LvM (w : World) (B p vb sb ab am N : Nat) (va : Option Addr) (vc : Nat) (S : NS) (m : Nat → Option Nat) : Prop where
  sto : Sto w B p S
  b1 : Box1 w vb (.slice va N vc)
  b2 : Box1 w sb (.pointer (some ⟨p, 0, none⟩))
  b3 : Box1 w ab (.map (some am))
  atm : IMap w am 256 m
theorem LvM.below {w w' : World} {B p vb sb ab am N : Nat} {va : Option Addr} {vc : Nat} {S : NS} {m : Nat → Option Nat} (h : LvM w B p vb sb ab am N va vc S m) (hb : Below w.heap.size w w') : LvM w' B p vb sb ab am N va vc S m :=
  ⟨h.sto.below hb, h.b1.below hb, h.b2.below hb, h.b3.below hb, MapAt.below h.atm hb⟩
theorem LvM.grown {w w' : World} {B p vb sb ab am N : Nat} {va : Option Addr} {vc : Nat} {S : NS} {m : Nat → Option Nat} (h : LvM w B p vb sb ab am N va vc S m) {sm : Nat} (hne : am ≠ sm) (hk : Kb (fun _ => false) w w') (hg : w.grownBy w' (some sm)) : LvM w' B p vb sb ab am N va vc S m :=
  ⟨h.sto.kb hk rfl rfl rfl rfl rfl, h.b1.kb hk, h.b2.kb hk, h.b3.kb hk, MapAt.grown h.atm hg (fun e => hne (by injection e))⟩
theorem at_lv (m : Nat → Option Nat) (v : Nat) : atF (intM m) (.int .i64 (v : Int)) (.int .i64 0) = .int .i64 (lvO m v : Int) := by
  unfold atF lvO
  rw [intM_at]
  cases m v <;> rfl
set_option maxRecDepth 100000 in
set_option maxHeartbeats 1600000 in
theorem level_ok (w : World) (B p vb sb ab am N : Nat) (va : Option Addr) (vc : Nat) (S : NS) (m : Nat → Option Nat) (h : LvM w B p vb sb ab am N va vc S m) (k : Nat) (hk : isB S.l k = true) :
    Calls Tryz.prog 123 #[.int .i64 (k : Int), .pointer (some ⟨vb, 0, none⟩), .pointer (some ⟨sb, 0, none⟩), .pointer (some ⟨ab, 0, none⟩)] w fun e w' => e = .returned (.int .i64 (levK (lvO m) N S.l k : Int)) ∧ ∃ n, w' = w.drewN n := by
  have HM := Lib.hid h; have HW := Lib.hid h.sto.wf; have HK := Lib.hid hk
  have x1 := h.b1.cell
  have x2 := h.b2.cell
  have HA := Lib.hid (nask_ok w B p S h.sto (k : Int))
  rw [askV_yes (by rw [isK_nat]; exact hk), Int.toNat_natCast] at HA
  clear h hk
  by_cases hk2 : k < 2
  · have d1 : decide ((k : Int) < 2) = true := decide_eq_true (by omega)
    have HL : Hid (levK (lvO m) N S.l k = N) := Lib.hid (by unfold levK; rw [if_pos hk2])
    clear hk2
    go_enter Tryz.func123, Tryz.ntmps123
    go_wp2_with fail
    go_ret
    exact ⟨by rw [HL.out]; rfl, 0, rfl⟩
  · have d1 : decide ((k : Int) < 2) = false := decide_eq_false (by omega)
    have HL : Hid (levK (lvO m) N S.l k = lvO m (nd S.l k).v) := Lib.hid (by unfold levK; rw [if_neg hk2])
    have hv := (HW.out.kid k (by omega) HK.out).1
    have HKV := Lib.hid (keyI (nd S.l k).v (by have := HW.out.v256; omega))
    obtain ⟨v, hve⟩ : ∃ v, (nd S.l k).v = v := ⟨_, rfl⟩
    rw [hve] at HA HL HKV
    clear hk2 hv hve x1
    go_enter Tryz.func123, Tryz.ntmps123
    go_wp2_with fail
    refine HA.out.mono ?_
    rintro e w1 ⟨rfl, nq, rfl⟩
    have HM1 := Lib.hid (HM.out.below (bdN' w nq))
    have x3 := HM1.out.b3.cell
    clear x2
    go_wp2_with (at_lookup; refine wpList_mlook rfl (.tmp 22) (.tmp 23) 147 rfl 3 (Maps.int_keyed Tryz.underlying3) Tryz.underlying147 (zeroI _) rfl HM1.out.atm _ _ rfl HKV.out ?_; rw [at_lv])
    go_ret
    exact ⟨by rw [HL.out]; rfl, nq, rfl⟩
/-! ### the walk -/
structure SatM (w : World) (B p vb sb ab lb mb wb am sm N : Nat) (va : Option Addr) (vc : Nat) (S : NS) (m : Nat → Option Nat) (o : Nat → Option Nat) : Prop extends LvM w B p vb sb ab am N va vc S m where
  b4 : Box1 w lb (lvC vb sb ab)
  b5 : Box1 w mb (.map (some sm))
  b6 : Box1 w wb (satC mb sb lb wb)
  mem : IMap w sm S.l.length o
  ne : am ≠ sm
theorem SatM.below {w w' : World} {B p vb sb ab lb mb wb am sm N : Nat} {va : Option Addr} {vc : Nat} {S : NS} {m o : Nat → Option Nat} (h : SatM w B p vb sb ab lb mb wb am sm N va vc S m o) (hb : Below w.heap.size w w') : SatM w' B p vb sb ab lb mb wb am sm N va vc S m o :=
  ⟨h.toLvM.below hb, h.b4.below hb, h.b5.below hb, h.b6.below hb, MapAt.below h.mem hb, h.ne⟩
theorem SatM.put {w w' : World} {B p vb sb ab lb mb wb am sm N : Nat} {va : Option Addr} {vc : Nat} {S : NS} {m o o' : Nat → Option Nat} (h : SatM w B p vb sb ab lb mb wb am sm N va vc S m o) (hs : IMap w' sm S.l.length o') (hg : w.grownBy w' (some sm)) : SatM w' B p vb sb ab lb mb wb am sm N va vc S m o' := by
  have hk : Kb (fun _ => false) w w' := MapAt.kb h.mem hg _
  exact ⟨h.toLvM.grown h.ne hk hg, h.b4.kb hk, h.b5.kb hk, h.b6.kb hk, hs, h.ne⟩
theorem SatM.held {w : World} {B p vb sb ab lb mb wb am sm N : Nat} {va : Option Addr} {vc : Nat} {S : NS} {m o : Nat → Option Nat} (h : SatM w B p vb sb ab lb mb wb am sm N va vc S m o) :
    w.cell? ⟨wb, 0, none⟩ = some (.func (.func 124) #[] #[.pointer (some ⟨mb, 0, none⟩), .pointer (some ⟨sb, 0, none⟩), .pointer (some ⟨lb, 0, none⟩), .pointer (some ⟨wb, 0, none⟩)]) ∧
    w.cell? ⟨lb, 0, none⟩ = some (.func (.func 123) #[] #[.pointer (some ⟨vb, 0, none⟩), .pointer (some ⟨sb, 0, none⟩), .pointer (some ⟨ab, 0, none⟩)]) := ⟨h.b6.cell, h.b4.cell⟩
theorem drew_b {W w' : World} {n : Nat} (h : w' = W.drewN n) : Below W.heap.size W w' := by rw [h]; exact bdN' _ _
/-- one map may have changed -/
abbrev O1 (m1 : Nat) (w w' : World) : Prop := Only (fun i => i = m1) w w'
theorem O1.trans {m1 : Nat} {a b c : World} (h : O1 m1 a b) (k : O1 m1 b c) : O1 m1 a c := Only.trans h k fun _ _ hi => hi
theorem O1.of_below {m1 : Nat} {w w' : World} (h : Below w.heap.size w w') : O1 m1 w w' := Only.of_below h fun k h1 h2 => by omega
theorem O1.grown {m1 : Nat} {w w' : World} (h : w.grownBy w' (some m1)) : O1 m1 w w' := Only.of_grown h fun k _ e => by injection e
noncomputable section
def satV (m : Nat → Option Nat) (N : Nat) (S : NS) (k : Nat) : Int := satB addS mulS powS (lvO m) N S.l k
end
theorem satV_nn {S : NS} (hW : Wf S) (m : Nat → Option Nat) (N : Nat) {k : Nat} (hk : isB S.l k = true) : 0 ≤ satV m N S k ∧ satV m N S k ≤ 4611686018427387903 := by
  unfold satV
  by_cases h2 : k < 2
  · rw [satB_leaf _ _ _ _ _ _ h2]; omega
  · rw [satB_step _ _ _ _ _ hW (by omega) hk]
    generalize mulS _ _ = x
    generalize mulS _ _ = y
    have := cnt_bd x; have := cnt_bd y
    unfold addS
    omega
theorem cnt_upd (o : Nat → Option Nat) {k n L : Nat} (hk : k < L) : (if (intM o (.int .i64 (k : Int))).isSome then cntS (fun j => (o j).isSome) L else cntS (fun j => (o j).isSome) L + 1) = cntS (fun j => (updM o k n j).isSome) L := by
  rw [intM_at]
  cases hm : o k with
  | none => rw [cnt_updM hk hm]; rfl
  | some x =>
    show cntS (fun j => (o j).isSome) L = _
    refine cntS_congr _ fun j => ?_
    unfold updM
    by_cases e : j = k
    · subst e; simp [hm]
    · simp [e]
/-- what was found is right -/
def SeenOk (S : NS) (m : Nat → Option Nat) (N : Nat) (o : Nat → Option Nat) : Prop := ∀ k n, o k = some n → (n : Int) = satV m N S k
theorem SeenOk.upd {S : NS} {m : Nat → Option Nat} {N : Nat} {o : Nat → Option Nat} (h : SeenOk S m N o) {k n : Nat} (hn : (n : Int) = satV m N S k) : SeenOk S m N (updM o k n) := fun j x hj => by
  unfold updM at hj
  split at hj
  · rename_i e
    injection hj with hj
    rw [e, ← hj]; exact hn
  · exact h j x hj
def SatWalked (B p vb sb ab lb mb wb am sm N : Nat) (va : Option Addr) (vc : Nat) (S : NS) (m : Nat → Option Nat) (k : Nat) (w : World) (e : Ending) (w' : World) : Prop :=
  e = .returned (.int .i64 (satV m N S k)) ∧ ∃ o, SatM w' B p vb sb ab lb mb wb am sm N va vc S m o ∧ SeenOk S m N o ∧ O1 sm w w'
theorem call_sat (args : Array Value) (w : World) : (callFunc 124 args).run Tryz.prog w = .ok (.enter 124 args) w := MuLone.run_callFunc_enter Tryz.func124 (by kernel_rfl) rfl args w
theorem call_lv (args : Array Value) (w : World) : (callFunc 123 args).run Tryz.prog w = .ok (.enter 123 args) w := MuLone.run_callFunc_enter Tryz.func123 (by kernel_rfl) rfl args w
set_option maxRecDepth 100000 in
set_option maxHeartbeats 8000000 in
theorem sat_ok (B p vb sb ab lb mb wb am sm N : Nat) (va : Option Addr) (vc : Nat) (S : NS) (m : Nat → Option Nat) (hN : N ≤ 256) (hm : ∀ v, lvO m v ≤ N) : ∀ (f : Nat) (w : World) (k : Nat) (o : Nat → Option Nat), SatM w B p vb sb ab lb mb wb am sm N va vc S m o → isB S.l k = true → S.vars - (nd S.l k).v < f → SeenOk S m N o →
    Calls Tryz.prog 124 #[.int .i64 (k : Int), .pointer (some ⟨mb, 0, none⟩), .pointer (some ⟨sb, 0, none⟩), .pointer (some ⟨lb, 0, none⟩), .pointer (some ⟨wb, 0, none⟩)] w (SatWalked B p vb sb ab lb mb wb am sm N va vc S m k w) := by
  intro f
  induction f with
  | zero => intro w k o _ _ hf; omega
  | succ f ih =>
    intro w k o hs hk hf ho
    have IH := Lib.hid ih
    clear ih
    have hW := hs.sto.wf
    have hlm := hW.lm
    have hkl := isB_lt hk
    have HS := Lib.hid hs; have HW := Lib.hid hW; have HK := Lib.hid hk; have HO := Lib.hid ho; have HFU := Lib.hid hf
    have HKEY := Lib.hid (keyI k (by omega))
    have hms : ∀ j, levK (lvO m) N S.l j ≤ N := fun j => by
      unfold levK
      split
      · exact Nat.le_refl _
      · exact hm _
    have HLV := Lib.hid hms
    have x1 := hs.b5.cell
    have x2 := hs.b2.cell
    clear hs hW hk hf ho hms
    by_cases hk2 : k < 2
    · have d1 : decide ((k : Int) < 2) = true := decide_eq_true (by omega)
      have HV : Hid (satV m N S k = (k : Int)) := Lib.hid (satB_leaf _ _ _ _ _ _ hk2)
      clear hk2
      go_enter Tryz.func124, Tryz.ntmps124
      go_wp2_with fail
      go_ret
      exact ⟨by rw [HV.out]; rfl, o, HS.out, HO.out, Only.refl _ _⟩
    have d1 : decide ((k : Int) < 2) = false := decide_eq_false (by omega)
    have h2 : 2 ≤ k := by omega
    clear hk2
    cases hok : o k with
    | some n =>
      have hat : atF (intM o) (.int .i64 (k : Int)) (.int .i64 0) = .int .i64 (n : Int) := by unfold atF; rw [intM_at, hok]; rfl
      have his : (intM o (.int .i64 (k : Int))).isSome = true := by rw [intM_at, hok]; rfl
      have HAT := Lib.hid hat; have HIS := Lib.hid his; have HV := Lib.hid (HO.out k n hok)
      clear hat his hok x2
      go_enter Tryz.func124, Tryz.ntmps124
      go_wp2_with (at_lookup; refine wpList_mlook_ok rfl (.tmp 19) (.tmp 20) 147 rfl 3 (Maps.int_keyed Tryz.underlying3) Tryz.underlying147 (zeroI _) rfl HS.out.mem _ _ rfl HKEY.out ?_; rw [HAT.out, HIS.out])
      go_ret
      exact ⟨by rw [← HV.out]; rfl, o, HS.out, HO.out, Only.refl _ _⟩
    | none =>
      have hat : atF (intM o) (.int .i64 (k : Int)) (.int .i64 0) = .int .i64 0 := by unfold atF; rw [intM_at, hok]; rfl
      have his : (intM o (.int .i64 (k : Int))).isSome = false := by rw [intM_at, hok]; rfl
      have HAT := Lib.hid hat; have HIS := Lib.hid his; have HOK := Lib.hid hok
      obtain ⟨hv0, _, hlo, hhi, hvl, hvh⟩ := HW.out.kid k h2 HK.out
      have HA := Lib.hid (nask_ok w B p S HS.out.sto (k : Int))
      rw [askV_yes (by rw [isK_nat]; exact HK.out), Int.toNat_natCast] at HA
      have HKID := Lib.hid (And.intro hv0 (And.intro hlo (And.intro hhi (And.intro hvl hvh))))
      have HSTEP : Hid (satV m N S k = addS (mulS (satV m N S (nd S.l k).low) (powS ((levK (lvO m) N S.l (nd S.l k).low : Int) - ((levK (lvO m) N S.l k : Int) + 1)))) (mulS (satV m N S (nd S.l k).high) (powS ((levK (lvO m) N S.l (nd S.l k).high : Int) - ((levK (lvO m) N S.l k : Int) + 1))))) := Lib.hid (satB_step _ _ _ _ _ HW.out h2 HK.out)
      have HLK : Hid (∀ W, LvM W B p vb sb ab am N va vc S m → Calls Tryz.prog 123 #[.int .i64 (k : Int), .pointer (some ⟨vb, 0, none⟩), .pointer (some ⟨sb, 0, none⟩), .pointer (some ⟨ab, 0, none⟩)] W fun e w' => e = .returned (.int .i64 (levK (lvO m) N S.l k : Int)) ∧ ∃ n, w' = W.drewN n) := Lib.hid (fun W h => level_ok W B p vb sb ab am N va vc S m h k HK.out)
      have HLL : Hid (∀ W, LvM W B p vb sb ab am N va vc S m → Calls Tryz.prog 123 #[.int .i64 ((nd S.l k).low : Int), .pointer (some ⟨vb, 0, none⟩), .pointer (some ⟨sb, 0, none⟩), .pointer (some ⟨ab, 0, none⟩)] W fun e w' => e = .returned (.int .i64 (levK (lvO m) N S.l (nd S.l k).low : Int)) ∧ ∃ n, w' = W.drewN n) := Lib.hid (fun W h => level_ok W B p vb sb ab am N va vc S m h _ HKID.out.2.1)
      have HLH : Hid (∀ W, LvM W B p vb sb ab am N va vc S m → Calls Tryz.prog 123 #[.int .i64 ((nd S.l k).high : Int), .pointer (some ⟨vb, 0, none⟩), .pointer (some ⟨sb, 0, none⟩), .pointer (some ⟨ab, 0, none⟩)] W fun e w' => e = .returned (.int .i64 (levK (lvO m) N S.l (nd S.l k).high : Int)) ∧ ∃ n, w' = W.drewN n) := Lib.hid (fun W h => level_ok W B p vb sb ab am N va vc S m h _ HKID.out.2.2.1)
      have HWL : Hid (∀ W o, SatM W B p vb sb ab lb mb wb am sm N va vc S m o → SeenOk S m N o → Calls Tryz.prog 124 #[.int .i64 ((nd S.l k).low : Int), .pointer (some ⟨mb, 0, none⟩), .pointer (some ⟨sb, 0, none⟩), .pointer (some ⟨lb, 0, none⟩), .pointer (some ⟨wb, 0, none⟩)] W (SatWalked B p vb sb ab lb mb wb am sm N va vc S m (nd S.l k).low W)) := Lib.hid (fun W o h1 h2 => IH.out W _ o h1 HKID.out.2.1 (by have := HFU.out; have := HKID.out; omega) h2)
      have HWH : Hid (∀ W o, SatM W B p vb sb ab lb mb wb am sm N va vc S m o → SeenOk S m N o → Calls Tryz.prog 124 #[.int .i64 ((nd S.l k).high : Int), .pointer (some ⟨mb, 0, none⟩), .pointer (some ⟨sb, 0, none⟩), .pointer (some ⟨lb, 0, none⟩), .pointer (some ⟨wb, 0, none⟩)] W (SatWalked B p vb sb ab lb mb wb am sm N va vc S m (nd S.l k).high W)) := Lib.hid (fun W o h1 h2 => IH.out W _ o h1 HKID.out.2.2.1 (by have := HFU.out; have := HKID.out; omega) h2)
      obtain ⟨v, hv⟩ : ∃ v, (nd S.l k).v = v := ⟨_, rfl⟩
      obtain ⟨lo, hl⟩ : ∃ lo, (nd S.l k).low = lo := ⟨_, rfl⟩
      obtain ⟨hi, hh⟩ : ∃ hi, (nd S.l k).high = hi := ⟨_, rfl⟩
      rw [hv, hl, hh] at HA
      rw [hl, hh] at HSTEP
      rw [hl] at HLL HWL
      rw [hh] at HLH HWH
      obtain ⟨ck, hck⟩ : ∃ c, levK (lvO m) N S.l k = c := ⟨_, rfl⟩
      obtain ⟨cl, hcl⟩ : ∃ c, levK (lvO m) N S.l lo = c := ⟨_, rfl⟩
      obtain ⟨ch, hch⟩ : ∃ c, levK (lvO m) N S.l hi = c := ⟨_, rfl⟩
      have hckN : ck ≤ 256 := by rw [← hck]; exact Nat.le_trans (HLV.out _) hN
      have hclN : cl ≤ 256 := by rw [← hcl]; exact Nat.le_trans (HLV.out _) hN
      have hchN : ch ≤ 256 := by rw [← hch]; exact Nat.le_trans (HLV.out _) hN
      rw [hck, hcl, hch] at HSTEP
      rw [hck] at HLK
      rw [hcl] at HLL
      rw [hch] at HLH
      have hnn := satV_nn HW.out m N HK.out
      obtain ⟨sv, hsv⟩ : ∃ n : Nat, satV m N S k = (n : Int) := ⟨(satV m N S k).toNat, by omega⟩
      have hsvb : sv ≤ 4611686018427387903 := by omega
      rw [hsv] at HSTEP
      have HSV := Lib.hid hsv
      clear hat his hok hv0 hlo hhi hvl hvh hv hl hh hck hcl hch hnn hsv IH
      go_enter Tryz.func124, Tryz.ntmps124
      go_wp2_with (at_lookup; refine wpList_mlook_ok rfl (.tmp 19) (.tmp 20) 147 rfl 3 (Maps.int_keyed Tryz.underlying3) Tryz.underlying147 (zeroI _) rfl HS.out.mem _ _ rfl HKEY.out ?_; rw [HAT.out, HIS.out])
      refine HA.out.mono ?_
      rintro e w2 ⟨rfl, nq, hw2⟩
      have hb2 : Below w.heap.size w w2 := by rw [hw2]; exact bdN' _ _
      have HS2 := Lib.hid (HS.out.below hb2)
      have HC2 : Hid (O1 sm w w2) := Lib.hid (O1.of_below hb2)
      clear hw2 hb2 x1 x2
      have x4 : w2.cell? ⟨lb, 0, none⟩ = some (lvC vb sb ab) := HS2.out.b4.cell
      unfold lvC at x4
      have hel := call_lv
      go_wp2_with fail
      refine (HLK.out w2 HS2.out.toLvM).mono ?_
      rintro e w3 ⟨rfl, nq3, hw3⟩
      have hb3 : Below w2.heap.size w2 w3 := by rw [hw3]; exact bdN' _ _
      have HS3 := Lib.hid (HS2.out.below hb3)
      have HC3 : Hid (O1 sm w w3) := Lib.hid (HC2.out.trans (O1.of_below hb3))
      clear hw3 hb3 x4
      have HCUR := Lib.hid (HS3.out.below ((Below.refl _ _).drew))
      have HCC : Hid (O1 sm w w3.drew) := Lib.hid (HC3.out.trans (O1.of_below (Below.refl _ _).drew))
      have HOC := HO
      have hes := call_sat
      have hw1 : IntKind.i64.wrap ((cl : Int) - ((ck : Int) + 1)) = (cl : Int) - ((ck : Int) + 1) := IntWalk.i64_in _ (by omega)
      have hw2 : IntKind.i64.wrap ((ch : Int) - ((ck : Int) + 1)) = (ch : Int) - ((ck : Int) + 1) := IntWalk.i64_in _ (by omega)
      go_wp2_with fail
      go_region_held3 (fun W => W.cell? ⟨wb, 0, none⟩ = some (.func (.func 124) #[] #[.pointer (some ⟨mb, 0, none⟩), .pointer (some ⟨sb, 0, none⟩), .pointer (some ⟨lb, 0, none⟩), .pointer (some ⟨wb, 0, none⟩)]) ∧ W.cell? ⟨lb, 0, none⟩ = some (.func (.func 123) #[] #[.pointer (some ⟨vb, 0, none⟩), .pointer (some ⟨sb, 0, none⟩), .pointer (some ⟨ab, 0, none⟩)]))
        (with_reducible exact HCUR.out.held) (first | (go_at_call 124; ((first | with_reducible refine (HWL.out _ _ HCUR.out HOC.out).mono ?_ | with_reducible refine (HWH.out _ _ HCUR.out HOC.out).mono ?_); rintro e w' ⟨rfl, o', hs', ho', hc'⟩; have HCUR := Lib.hid hs'; have HOC := Lib.hid ho'; have HCC := Lib.hid (HCC.out.trans hc'); clear hs' ho' hc')) | (go_at_call 123; ((first | with_reducible refine (HLL.out _ HCUR.out.toLvM).mono ?_ | with_reducible refine (HLH.out _ HCUR.out.toLvM).mono ?_); rintro e w' ⟨rfl, nn, hw'⟩; have hbb := drew_b hw'; have HCUR := Lib.hid (HCUR.out.below hbb); have HCC := Lib.hid (HCC.out.trans (O1.of_below hbb)); clear hw' hbb)) | (go_at_call 127; refine (pow_ok _ _).mono ?_; rintro e w' ⟨rfl, rfl⟩) | (go_at_call 126; refine (mul_ok _ _ _).mono ?_; rintro e w' ⟨rfl, rfl⟩) | (go_at_call 125; refine (add_ok _ _ _).mono ?_; rintro e w' ⟨rfl, rfl⟩))
      rw [← HSTEP.out]
      obtain ⟨w6, hw6⟩ : ∃ w6, w6 = w' := ⟨_, rfl⟩
      rw [← hw6] at HCUR HCC ⊢
      clear hw6 hw1 hw2 hes hel
      have x5 : w6.cell? ⟨mb, 0, none⟩ = some (.map (some sm)) := HCUR.out.b5.cell
      have hcL : cntS (fun j => (o' j).isSome) S.l.length < maxLen := by have := cntS_le (fun j => (o' j).isSome) S.l.length; unfold maxLen; omega
      have hnn : (if (intM o' (.int .i64 (k : Int))).isSome then cntS (fun j => (o' j).isSome) S.l.length else cntS (fun j => (o' j).isSome) S.l.length + 1) = cntS (fun j => (updM o' k sv j).isSome) S.l.length := cnt_upd o' hkl
      have HCL2 := Lib.hid hcL; have HNN := Lib.hid hnn
      clear hcL hnn
      go_wp2_with (at_mapUpdate; refine wpList_msetn rfl (.tmp 59) (.tmp 60) (.tmp 61) 147 rfl 3 (Maps.int_keyed Tryz.underlying3) Tryz.underlying147 rfl HCUR.out.mem HCL2.out _ (.int .i64 (sv : Int)) _ rfl rfl HKEY.out _ HNN.out ?_)
      rw [intM_set]
      intro w7 hm7 hg7
      have HS7 := Lib.hid (HCUR.out.put hm7 hg7)
      have HC7 := Lib.hid (HCC.out.trans (O1.grown hg7))
      have HO7 := Lib.hid (HOC.out.upd HSV.out.symm)
      clear hm7 hg7 x5
      go_wp2_with fail
      go_ret
      exact ⟨by rw [HSV.out]; rfl, _, HS7.out, HO7.out, HC7.out⟩
end Go.Proofs.YtobhjkfkdkiigaaGreatDoor

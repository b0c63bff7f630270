/- Layer 5 in memory: maps of numbers (IMap), what a call with a map of its own may have changed (Km), Quan's box; the contract of walk, whatever is handed in. -/
import Derived.Test.YtobhjkfkdkiigaaGreatDoorOperF
import Derived.Test.YtobhjkfkdkiigaaGreatDoorOperP
import Derived.Test.YtobhjkfkdkiigaaGreatDoorNodeGZ
import Derived.Conc.MuLone
namespace Go.Proofs.YtobhjkfkdkiigaaGreatDoor
open Go.RowKit HP NP
/-! ### a map of numbers -/
def intM (m : Nat → Option Nat) : Lit → Option Value
  | .int .i64 z => if decide (0 ≤ z) then (m z.toNat).map fun n : Nat => .int .i64 (n : Int) else none
  | _ => none
theorem intM_at (m : Nat → Option Nat) (k : Nat) : intM m (.int .i64 (k : Int)) = (m k).map fun n : Nat => .int .i64 (n : Int) := by
  show (if decide ((0 : Int) ≤ (k : Int)) then (m (k : Int).toNat).map (fun n : Nat => Value.int .i64 (n : Int)) else none) = _
  rw [decide_eq_true (by omega), if_pos rfl, Int.toNat_natCast]
def updM (m : Nat → Option Nat) (k n : Nat) : Nat → Option Nat := fun j => if j = k then some n else m j
theorem intM_set (m : Nat → Option Nat) (k n : Nat) : setF (intM m) (.int .i64 (k : Int)) (.int .i64 (n : Int)) = intM (updM m k n) := by
  funext l
  unfold setF
  by_cases e : l = .int .i64 (k : Int)
  · subst e
    simp [intM, updM, Lit.sameKey]
  · rw [Maps.sameKey_ne e]
    simp only [Bool.false_eq_true, if_false]
    cases l with
    | int kd z =>
      cases kd
      case i64 =>
        simp only [intM]
        by_cases hz : 0 ≤ z
        · have : z.toNat ≠ k := by rintro rfl; exact e (by rw [Int.toNat_of_nonneg hz])
          simp [updM, this]
        · simp [hz]
      all_goals rfl
    | _ => rfl
def IMap (w : World) (b L : Nat) (m : Nat → Option Nat) : Prop := MapAt w Tryz.prog 3 b (cntS (fun k => (m k).isSome) L) (intM m)
theorem zeroI (w : World) : (zeroValue 3).run Tryz.prog w = .ok (.int .i64 0) w := by kernel_rfl
theorem IMap.new (w : World) (L : Nat) : IMap (w.alloc (.map #[] 0)) w.heap.size L (fun _ => none) := by
  have h := MapAt.made w Tryz.prog 3
  have e : intM (fun _ => none) = fun _ => none := by
    funext l
    cases l with
    | int kd z => cases kd <;> simp [intM]
    | _ => rfl
  unfold IMap
  rw [e]
  have c : cntS (fun k => ((fun _ => none : Nat → Option Nat) k).isSome) L = 0 := by unfold cntS; simp
  rw [c]
  exact h
theorem cnt_updM {m : Nat → Option Nat} {k n L : Nat} (hk : k < L) (h0 : m k = none) : cntS (fun j => (updM m k n j).isSome) L = cntS (fun j => (m j).isSome) L + 1 := by
  have h := cntS_set (s := fun j => (m j).isSome) (n := L) (k := k) hk (by simp [h0])
  rw [← h]
  refine cntS_congr L fun j => ?_
  unfold updM setB
  by_cases e : j = k <;> simp [e]
/-! ### what may have changed, a map at b among it -/
def KF (T : TypeId → Bool) (B b : Nat) (w : World) (i : Nat) : Prop := TF T B w i ∨ i = b
abbrev Km (T : TypeId → Bool) (B b : Nat) (w w' : World) : Prop := Only (KF T B b w) w w'
theorem Km.refl (T : TypeId → Bool) (B b : Nat) (w : World) : Km T B b w w := Only.refl _ _
theorem Km.of_kp {T : TypeId → Bool} {B b : Nat} {w w' : World} (h : Kp T B w w') : Km T B b w w' := Only.mono h fun _ _ hf => .inl hf
theorem Km.of_below {T : TypeId → Bool} {B b : Nat} {w w' : World} (h : Below w.heap.size w w') : Km T B b w w' := Km.of_kp (Kp.of_below h)
theorem Km.grown {T : TypeId → Bool} {B b : Nat} {w w' : World} (h : w.grownBy w' (some b)) : Km T B b w w' := Only.of_grown h fun k _ e => .inr (by injection e)
theorem Km.trans {T : TypeId → Bool} {B b : Nat} {x y z : World} (h : Km T B b x y) (k : Km T B b y z) : Km T B b x z := by
  refine Only.trans h k fun i hi hg => ?_
  refine Classical.byContradiction fun hn => hn ?_
  rcases hg with ⟨h1, cs, t, f, h2, h3⟩ | e
  · exact .inl ⟨h1, cs, t, f, by rw [← h.block i hi hn]; exact h2, h3⟩
  · exact .inr e
def IsMap (w : World) (b : Nat) : Prop := ∃ es c, w.heap[b]? = some (.map es c)
theorem IMap.is {w : World} {b L : Nat} {m : Nat → Option Nat} (h : IMap w b L m) : IsMap w b := h.block
theorem Km.blk {T : TypeId → Bool} {B b : Nat} {w w' : World} {c : Nat} {t : TypeId} {cs : Array Value} (h : Km T B b w w') (hm : IsMap w b) (hb : Blk w c t cs) (ht : T t = false) : Blk w' c t cs := by
  refine hb.only h ?_
  rintro (⟨_, cs', t', f, h2, h3⟩ | rfl)
  · unfold Blk at hb
    rw [hb] at h2
    injection h2 with h2
    injection h2 with _ h2 _
    rw [← h2, ht] at h3
    cases h3
  · obtain ⟨es, n, hm⟩ := hm
    unfold Blk at hb
    rw [hb] at hm; cases hm
theorem Km.kb {T : TypeId → Bool} {B b : Nat} {w w' : World} (h : Km T B b w w') (hm : IsMap w b) : Kb T w w' := fun _ _ _ hb ht => h.blk hm hb ht
theorem Km.low {T : TypeId → Bool} {B b : Nat} {w w' : World} (h : Km T B b w w') (hB : B ≤ w.heap.size) (hb : B ≤ b) : Below B w w' :=
  Only.below h (fun k hk _ hf => by rcases hf with hf | rfl; have := hf.1; omega; omega) hB
/-- the nodes that a walk down f variables may make, C f at each node -/
def tot (C : Nat → Nat) : Nat → Nat
  | 0 => 0
  | f + 1 => tot C f + tot C f + C f
/-! ### Quan's box -/
abbrev QuBlk (w : World) (qn p q : Nat) : Prop := Blk w qn 86 #[.pointer (some ⟨q, 0, none⟩), .pointer (some ⟨p, 0, none⟩)]
/-- what was found is right -/
def MemoOk (S0 S : NS) (T : Nat → (Nat → Bool) → Bool) (m : Nat → Option Nat) : Prop := ∀ k n, m k = some n → isB S0.l k = true ∧ Den S n (T k)
theorem MemoOk.ext {S0 S S' : NS} {T : Nat → (Nat → Bool) → Bool} {m : Nat → Option Nat} (h : MemoOk S0 S T m) (he : Ext S S') (hW : Wf S) (hW' : Wf S') : MemoOk S0 S' T m := fun k n hk => ⟨(h k n hk).1, (h k n hk).2.ext he hW hW'⟩
theorem MemoOk.upd {S0 S : NS} {T : Nat → (Nat → Bool) → Bool} {m : Nat → Option Nat} (h : MemoOk S0 S T m) {k n : Nat} (hk : isB S0.l k = true) (hd : Den S n (T k)) : MemoOk S0 S T (updM m k n) := fun j x hj => by
  unfold updM at hj
  split at hj
  · rename_i e
    injection hj with hj
    rw [e, ← hj]; exact ⟨hk, hd⟩
  · exact h j x hj
def WalkPost (B p q b L : Nat) (S0 : NS) (T : Nat → (Nat → Bool) → Bool) (C : Nat → Nat) (f k : Nat) (S : NS) (w : World) (e : Ending) (w' : World) : Prop :=
  ∃ S' m', Sto w' B p S' ∧ OpsM w' B p q S' ∧ IMap w' b L m' ∧ MemoOk S0 S' T m' ∧ Km TO B b w w' ∧
    ((∃ k' : Nat, e = .returned (.tuple #[.int .i64 (k' : Int), .int .i64 0]) ∧ GotOk S (T k) (tot C f) S' k') ∨ (e = .returned (.tuple #[.int .i64 0, .int .i64 30]) ∧ GotNo S (tot C f) S'))
theorem GotOk.same {S : NS} {g : (Nat → Bool) → Bool} {n k : Nat} (hW : Wf S) (h : Den S k g) : GotOk S g n S k := ⟨hW, Ext.refl _, h, by omega, fun _ => Nat.le_refl _, rfl⟩
set_option maxRecDepth 100000 in
set_option maxHeartbeats 4000000 in
theorem qwalk_ok (B p q qn b fid : Nat) (V : Nat → Bool) (C : Nat → Nat) (caps : Array Value) (S0 : NS) (T : Nat → (Nat → Bool) → Bool) (I : World → Prop) (hW0 : Wf S0) (_hBb : B ≤ b)
    (hI : ∀ w w', I w → IsMap w b → Km TO B b w w' → I w') (hIq : ∀ w, I w → QuBlk w qn p q)
    (hT0 : ∀ k, k < 2 → ∀ ρ, T k ρ = (k == 1))
    (hcall : ∀ (args : Array Value) (w : World), (callFunc fid args).run Tryz.prog w = .ok (.enter fid args) w)
    (hclos : ∀ (w : World) (S : NS) (k low high f : Nat), Dep V (fun ρ => den S0.l ρ k) → rk V S0.vars (nd S0.l k).v ≤ f + 1 → I w → Sto w B p S → OpsM w B p q S → B ≤ w.heap.size → Ext S0 S → 2 ≤ k → isB S0.l k = true → Den S low (T (nd S0.l k).low) → Den S high (T (nd S0.l k).high) →
      Calls Tryz.prog fid (#[.int .i64 ((nd S0.l k).v : Int), .int .i64 (low : Int), .int .i64 (high : Int)] ++ caps) w (OpPost B p q S (T k) (C f) w)) :
    ∀ (f : Nat) (w : World) (S : NS) (k : Nat) (m : Nat → Option Nat), I w → Sto w B p S → OpsM w B p q S → B ≤ w.heap.size → Ext S0 S → IMap w b S0.l.length m → MemoOk S0 S T m → isB S0.l k = true → Dep V (fun ρ => den S0.l ρ k) → rk V S0.vars (nd S0.l k).v ≤ f →
    Calls Tryz.prog 70 #[.pointer (some ⟨qn, 0, none⟩), .int .i64 (k : Int), .map (some b), .func (.func fid) #[] caps] w (WalkPost B p q b S0.l.length S0 T C f k S w) := by
  have hleaf : ∀ (f : Nat) (w : World) (S : NS) (k : Nat) (m : Nat → Option Nat), Sto w B p S → OpsM w B p q S → IMap w b S0.l.length m → MemoOk S0 S T m → isB S.l k = true → k < 2 →
      Calls Tryz.prog 70 #[.pointer (some ⟨qn, 0, none⟩), .int .i64 (k : Int), .map (some b), .func (.func fid) #[] caps] w (WalkPost B p q b S0.l.length S0 T C f k S w) := by
    intro f w S k m h ho hm hmo hk hk2
    have hd : decide (k < 2) = true := decide_eq_true hk2
    have hp : WalkPost B p q b S0.l.length S0 T C f k S w (.returned (.tuple #[.int .i64 (k : Int), .int .i64 0])) w :=
      ⟨S, m, h, ho, hm, hmo, Km.refl _ _ _ _, .inl ⟨k, rfl, GotOk.same h.wf ⟨hk, fun ρ => by rw [den_leaf _ _ hk2, hT0 k hk2]⟩⟩⟩
    have HP := Lib.hid hp
    clear h ho hm hmo hk hp hclos hI hIq hT0
    go_enter Tryz.func70, Tryz.ntmps70
    go_wp2_with fail
    go_ret2
    exact HP.out
  intro f
  induction f with
  | zero =>
    intro w S k m hi h ho hB he hm hmo hk hd hf
    have hk2 : k < 2 := by
      rcases Nat.lt_or_ge k 2 with h2 | h2
      · exact h2
      · have hv := (hW0.kid k h2 hk).1
        have := rk_lt (Nat.le_refl _) hv (hd.top hW0 hk hv); omega
    exact hleaf 0 w S k m h ho hm hmo (he.isB hk) hk2
  | succ f ih =>
    intro w S k m hi h ho hB he hm hmo hk hd hf
    have HLF := Lib.hid hleaf
    have IH := Lib.hid ih; have HCL := Lib.hid hclos; have HT0 := Lib.hid hT0; have HIQ := Lib.hid hIq; have HII := Lib.hid hI
    have HI := Lib.hid hi; have HS := Lib.hid h; have HO := Lib.hid ho; have HE := Lib.hid he; have HM := Lib.hid hm; have HMO := Lib.hid hmo; have HK := Lib.hid hk; have HF := Lib.hid hf; have HD := Lib.hid hd; have HW0 := Lib.hid hW0
    have hks := isB_small hW0 hk
    have HKEY := Lib.hid (keyI k (by omega))
    clear hleaf ih hclos hT0 hIq hI hi h ho he hm hmo hk hd hf hW0
    by_cases hk2 : k < 2
    · exact HLF.out (f + 1) w S k m HS.out HO.out HM.out HMO.out (HE.out.isB HK.out) hk2
    · have hkl : decide (k < 2) = false := decide_eq_false hk2
      have hk22 : 2 ≤ k := by omega
      obtain ⟨hv1, _, hlo, hhi, hvl, hvh⟩ := HW0.out.kid k hk22 HK.out
      have HKID := Lib.hid (HW0.out.kid k hk22 HK.out)
      have HDK := Lib.hid (HD.out.kids HW0.out hk22 HK.out)
      have hrk := rk_lt (Nat.le_refl _) hv1 (HD.out.top HW0.out HK.out hv1)
      have HRL : Hid (rk V S0.vars (nd S0.l (nd S0.l k).low).v ≤ f ∧ rk V S0.vars (nd S0.l (nd S0.l k).high).v ≤ f) := Lib.hid (by
        have hf := HF.out
        have r1 := rk_le (V := V) (n := S0.vars) (show (nd S0.l k).v + 1 ≤ (nd S0.l (nd S0.l k).low).v by omega)
        have r2 := rk_le (V := V) (n := S0.vars) (show (nd S0.l k).v + 1 ≤ (nd S0.l (nd S0.l k).high).v by omega)
        omega)
      clear hrk
      have HQ := Lib.hid (HIQ.out _ HI.out)
      have c1 : w.cell? ⟨qn, 1, none⟩ = some (.pointer (some ⟨p, 0, none⟩)) := HQ.out.cell 1
      have hql := HQ.out.lt
      cases hmk : m k with
      | some n =>
        have hat : atF (intM m) (.int .i64 (k : Int)) (.int .i64 0) = .int .i64 (n : Int) := by unfold atF; rw [intM_at, hmk]; rfl
        have his : (intM m (.int .i64 (k : Int))).isSome = true := by rw [intM_at, hmk]; rfl
        have HAT := Lib.hid hat; have HIS := Lib.hid his
        have hp : WalkPost B p q b S0.l.length S0 T C (f + 1) k S w (.returned (.tuple #[.int .i64 (n : Int), .int .i64 0])) w :=
          ⟨S, m, HS.out, HO.out, HM.out, HMO.out, Km.refl _ _ _ _, .inl ⟨n, rfl, GotOk.same HS.out.wf (HMO.out k n hmk).2⟩⟩
        have HP := Lib.hid hp
        clear hat his hmk hp hv1 hlo hhi hvl hvh hk2
        go_enter Tryz.func70, Tryz.ntmps70
        go_wp2_with (at_lookup; refine wpList_mlook_ok rfl (.tmp 24) (.tmp 25) 147 rfl 3 (Maps.int_keyed Tryz.underlying3) Tryz.underlying147 (zeroI _) rfl HM.out _ _ rfl HKEY.out ?_; rw [HAT.out, HIS.out])
        go_ret2
        exact HP.out
      | none =>
        have hat : atF (intM m) (.int .i64 (k : Int)) (.int .i64 0) = .int .i64 0 := by unfold atF; rw [intM_at, hmk]; rfl
        have his : (intM m (.int .i64 (k : Int))).isSome = false := by rw [intM_at, hmk]; rfl
        have HAT := Lib.hid hat; have HIS := Lib.hid his; have HMK := Lib.hid hmk
        have hnd := HE.out.nds k HK.out
        have HA := Lib.hid (nask_ok w B p S HS.out (k : Int))
        rw [askV_yes (by rw [isK_nat]; exact HE.out.isB HK.out), Int.toNat_natCast, hnd] at HA
        have HEN : Hid (∀ (args : Array Value) (w : World), (callFunc fid args).run Tryz.prog w = .ok (.enter fid args) w) := Lib.hid hcall
        clear hat his hmk hnd hv1 hlo hhi hvl hvh hk2
        go_enter Tryz.func70, Tryz.ntmps70
        go_wp2_with (at_lookup; refine wpList_mlook_ok rfl (.tmp 24) (.tmp 25) 147 rfl 3 (Maps.int_keyed Tryz.underlying3) Tryz.underlying147 (zeroI _) rfl HM.out _ _ rfl HKEY.out ?_; rw [HAT.out, HIS.out])
        refine HA.out.mono ?_
        rintro e w1 ⟨rfl, n1, hw1⟩
        have hbl1 : Below w.heap.size w w1 := by rw [hw1]; exact bdN' _ _
        have HB1 := Lib.hid hbl1
        clear hw1 hbl1
        go_wp2_with fail
        refine (IH.out w1 S (nd S0.l k).low m (HII.out _ _ HI.out HM.out.is (Km.of_below HB1.out)) (HS.out.below HB1.out) (HO.out.below HB1.out) (Nat.le_trans hB HB1.out.size) HE.out (HM.out.below HB1.out) HMO.out HKID.out.2.2.1 HDK.out.1 HRL.out.1).mono ?_
        rintro e w2 ⟨S2, m2, hs2, ho2, hm2, hmo2, hk2, hr⟩
        have HS2 := Lib.hid hs2; have HO2 := Lib.hid ho2; have HM2 := Lib.hid hm2; have HMO2 := Lib.hid hmo2; have HK2 := Lib.hid ((Km.of_below HB1.out).trans hk2)
        clear hs2 ho2 hm2 hmo2 hk2
        rcases hr with ⟨k1, rfl, hg⟩ | ⟨rfl, hg⟩
        · have HG2 := Lib.hid hg
          clear hg
          have hB2 : B ≤ w2.heap.size := Nat.le_trans hB HK2.out.size
          have HI2 := Lib.hid (HII.out _ _ HI.out HM.out.is HK2.out)
          have HE2 := Lib.hid (HE.out.trans HG2.out.ext)
          go_wp2_with fail
          refine (IH.out w2 S2 (nd S0.l k).high m2 HI2.out HS2.out HO2.out hB2 HE2.out HM2.out HMO2.out HKID.out.2.2.2.1 HDK.out.2 HRL.out.2).mono ?_
          rintro e w3 ⟨S3, m3, hs3, ho3, hm3, hmo3, hk3, hr⟩
          have HS3 := Lib.hid hs3; have HO3 := Lib.hid ho3; have HM3 := Lib.hid hm3; have HMO3 := Lib.hid hmo3; have HK3 := Lib.hid (HK2.out.trans hk3)
          clear hs3 ho3 hm3 hmo3 hk3
          rcases hr with ⟨k2, rfl, hg⟩ | ⟨rfl, hg⟩
          · have HG3 := Lib.hid hg
            clear hg
            have hB3 : B ≤ w3.heap.size := Nat.le_trans hB HK3.out.size
            have HI3 := Lib.hid (HII.out _ _ HI.out HM.out.is HK3.out)
            have HE3 := Lib.hid (HE2.out.trans HG3.out.ext)
            have HL3 := Lib.hid (HCL.out w3 S3 k k1 k2 f HD.out HF.out HI3.out HS3.out HO3.out hB3 HE3.out hk22 HK.out (HG2.out.den.ext HG3.out.ext HG2.out.wf HG3.out.wf) HG3.out.den)
            have hen := HEN.out
            go_wp2_with fail
            clear hen
            refine HL3.out.mono ?_
            rintro e w4 ⟨S4, hs4, ho4, hk4, hr⟩
            have HS4 := Lib.hid hs4; have HO4 := Lib.hid ho4; have HK4 := Lib.hid (HK3.out.trans (Km.of_kp hk4)); have HM4 := Lib.hid (show IMap w4 b S0.l.length m3 from HM3.out.kp hk4)
            clear hs4 ho4 hk4
            rcases hr with ⟨k3, rfl, hg⟩ | ⟨rfl, hg⟩
            · have HG4 := Lib.hid hg
              have HG : Hid (GotOk S (T k) (tot C (f + 1)) S4 k3) := Lib.hid ⟨hg.wf, (HG2.out.ext.trans HG3.out.ext).trans hg.ext, hg.den, by have := HG2.out.cnt; have := HG3.out.cnt; have := hg.cnt; unfold tot; omega, fun j => Nat.le_trans (hg.pin j) (Nat.le_trans (HG3.out.pin j) (HG2.out.pin j)), hg.sw.trans (HG3.out.sw.trans HG2.out.sw)⟩
              clear hg
              have HMO4 := Lib.hid ((HMO3.out.ext HG4.out.ext HG3.out.wf HG4.out.wf).upd HK.out HG4.out.den)
              have hkL := isB_lt HK.out
              have hcL : cntS (fun j => (m3 j).isSome) S0.l.length < maxLen := by have := cntS_le (fun j => (m3 j).isSome) S0.l.length; have := HW0.out.lm; unfold maxLen; omega
              have hnn : (if (intM m3 (.int .i64 (k : Int))).isSome then cntS (fun j => (m3 j).isSome) S0.l.length else cntS (fun j => (m3 j).isSome) S0.l.length + 1) = cntS (fun j => (updM m3 k k3 j).isSome) S0.l.length := by
                rw [intM_at]
                cases hm : m3 k with
                | none => rw [cnt_updM hkL hm]; rfl
                | some x =>
                  show cntS (fun j => (m3 j).isSome) S0.l.length = _
                  refine cntS_congr _ fun j => ?_
                  unfold updM
                  by_cases e : j = k
                  · subst e; simp [hm]
                  · simp [e]
              have HCL2 := Lib.hid hcL; have HNN := Lib.hid hnn
              clear hcL hnn hkL
              go_wp2_with (at_mapUpdate; refine wpList_msetn rfl (.tmp 74) (.tmp 75) (.tmp 76) 147 rfl 3 (Maps.int_keyed Tryz.underlying3) Tryz.underlying147 rfl HM4.out HCL2.out _ (.int .i64 (k3 : Int)) _ rfl rfl HKEY.out _ HNN.out ?_)
              rw [intM_set]
              intro w5 hm5 hg5
              have HM5 := Lib.hid (show IMap w5 b S0.l.length (updM m3 k k3) from hm5)
              have hkm : Km TO B b w4 w5 := Km.grown hg5
              have hkz : Kb (fun _ => false) w4 w5 := (Km.grown (T := fun _ => false) (B := 0) hg5).kb HM4.out.is
              have HS5 := Lib.hid (HS4.out.kb hkz rfl rfl rfl rfl rfl)
              have HO5 := Lib.hid (HO4.out.kb hkz rfl rfl)
              have HK5 := Lib.hid (HK4.out.trans hkm)
              clear hm5 hg5 hkm hkz
              go_wp2_with fail
              go_ret2
              exact ⟨S4, _, HS5.out, HO5.out, HM5.out, HMO4.out, HK5.out, .inl ⟨k3, rfl, HG.out⟩⟩
            · have HG : Hid (GotNo S (tot C (f + 1)) S4) := Lib.hid ⟨hg.wf, (HG2.out.ext.trans HG3.out.ext).trans hg.ext, by have h1 := HG2.out.cnt; have h2 := HG3.out.cnt; have h3 := hg.room; rw [HG3.out.ext.budget, HG2.out.ext.budget] at h3; unfold tot; omega, fun j => Nat.le_trans (hg.pin j) (Nat.le_trans (HG3.out.pin j) (HG2.out.pin j)), hg.sw.trans (HG3.out.sw.trans HG2.out.sw)⟩
              have HMO4 := Lib.hid (HMO3.out.ext hg.ext HG3.out.wf hg.wf)
              clear hg
              go_wp2_with fail
              go_ret2
              exact ⟨S4, m3, HS4.out, HO4.out, HM4.out, HMO4.out, HK4.out, .inr ⟨rfl, HG.out⟩⟩
          · have HG : Hid (GotNo S (tot C (f + 1)) S3) := Lib.hid ⟨hg.wf, HG2.out.ext.trans hg.ext, by have h1 := HG2.out.cnt; have h3 := hg.room; rw [HG2.out.ext.budget] at h3; unfold tot; omega, fun j => Nat.le_trans (hg.pin j) (HG2.out.pin j), hg.sw.trans HG2.out.sw⟩
            clear hg
            go_wp2_with fail
            go_ret2
            exact ⟨S3, m3, HS3.out, HO3.out, HM3.out, HMO3.out, HK3.out, .inr ⟨rfl, HG.out⟩⟩
        · have HG : Hid (GotNo S (tot C (f + 1)) S2) := Lib.hid ⟨hg.wf, hg.ext, by have h3 := hg.room; unfold tot; omega, hg.pin, hg.sw⟩
          clear hg
          go_wp2_with fail
          go_ret2
          exact ⟨S2, m2, HS2.out, HO2.out, HM2.out, HMO2.out, HK2.out, .inr ⟨rfl, HG.out⟩⟩
end Go.Proofs.YtobhjkfkdkiigaaGreatDoor

/- Layer 6: count.may; the walk of Asks (a closure that calls itself). -/
import Derived.Test.YtobhjkfkdkiigaaGreatDoorCountM
import Derived.Test.YtobhjkfkdkiigaaGreatDoorNodeBZ
import Derived.BigQuiet
namespace Go.Proofs.YtobhjkfkdkiigaaGreatDoor
open Go.RowKit HP NP
/-! ### boxes and maps -/
def Box1 (w : World) (b : Nat) (v : Value) : Prop := ∃ ty, Blk w b ty #[v]
theorem Box1.cell {w : World} {b : Nat} {v : Value} (h : Box1 w b v) : w.cell? ⟨b, 0, none⟩ = some v := by obtain ⟨ty, h⟩ := h; exact h.cell 0
theorem Box1.frozen {w : World} {b : Nat} {v : Value} (h : Box1 w b v) : w.frozen? ⟨b, 0, none⟩ = false := by obtain ⟨ty, h⟩ := h; exact h.frozen 0
theorem Box1.lt {w : World} {b : Nat} {v : Value} (h : Box1 w b v) : b < w.heap.size := by obtain ⟨ty, h⟩ := h; exact h.lt
theorem Box1.kb {w w' : World} {b : Nat} {v : Value} (h : Box1 w b v) (hk : Kb (fun _ => false) w w') : Box1 w' b v := by obtain ⟨ty, h⟩ := h; exact ⟨ty, hk _ _ _ h rfl⟩
theorem Box1.below {w w' : World} {b : Nat} {v : Value} (h : Box1 w b v) (hb : Below w.heap.size w w') : Box1 w' b v := by obtain ⟨ty, h⟩ := h; exact ⟨ty, h.below hb h.lt⟩
/-- two maps may have changed -/
abbrev Om (m1 m2 : Nat) (w w' : World) : Prop := Only (fun i => i = m1 ∨ i = m2) w w'
theorem Om.trans {m1 m2 : Nat} {a b c : World} (h : Om m1 m2 a b) (k : Om m1 m2 b c) : Om m1 m2 a c := Only.trans h k fun _ _ hi => hi
theorem Om.of_below {m1 m2 : Nat} {w w' : World} (h : Below w.heap.size w w') : Om m1 m2 w w' := Only.of_below h fun k h1 h2 => by omega
theorem Om.grown1 {m1 m2 : Nat} {w w' : World} (h : w.grownBy w' (some m1)) : Om m1 m2 w w' := Only.of_grown h fun k _ e => by injection e with e; exact .inl e
theorem Om.grown2 {m1 m2 : Nat} {w w' : World} (h : w.grownBy w' (some m2)) : Om m1 m2 w w' := Only.of_grown h fun k _ e => by injection e with e; exact .inr e
theorem Om.kb {m1 m2 : Nat} {w w' : World} (h : Om m1 m2 w w') (h1 : IsMap w m1) (h2 : IsMap w m2) : Kb (fun _ => false) w w' := fun b t cs hb _ => hb.only h (by
  unfold Blk at hb
  rintro (rfl | rfl)
  · obtain ⟨es, n, hm⟩ := h1; rw [hb] at hm; cases hm
  · obtain ⟨es, n, hm⟩ := h2; rw [hb] at hm; cases hm)
theorem SetAt.is {w : World} {b n : Nat} {s : Nat → Bool} (h : SetAt w b n s) : IsMap w b := MapAt.block h
theorem cnt_setB (s : Nat → Bool) {k n : Nat} (hk : k < n) : (if (setM s (.int .i64 (k : Int))).isSome then cntS s n else cntS s n + 1) = cntS (setB s k) n := by
  rw [setM_at]
  cases h : s k with
  | false => rw [cntS_set hk h]; rfl
  | true =>
    show cntS s n = _
    refine cntS_congr n fun j => ?_
    unfold setB
    rw [Bool.or_eq_true, beq_iff_eq]
    exact ⟨fun h => .inl h, fun hj => by rcases hj with hj | rfl; exact hj; exact h⟩
theorem run_mlook {P : Program} {w : World} {k : TypeId} {b n : Nat} {F : Lit → Option Value} (t : TypeId) (e : TypeId) (K : Maps.Keyed P k) (ht : P.underlying t = some (.map k e)) {z : Value} (hz : (zeroValue e).run P w = .ok z w)
    (h : MapAt w P k b n F) (key : Value) (kl : Lit) (hkey : keyOf P k key = some kl) : (Instr.lookup t (.map (some b)) key false).run P w = .ok (atF F kl z) w := by
  obtain ⟨D, hown, _, hv⟩ := h
  obtain ⟨v, ps, hrun, hr⟩ := hown.lookup K ht hz (zd := .held z) (zp := []) rfl hkey
  rw [(hv kl).2 z] at hr
  have := hR_inv hr
  subst this
  exact hrun
/-! ### may -/
theorem cmay6_ok (w : World) (B p : Nat) (S : NS) (h : Sto w B p S) (k : Int) : Calls Tryz.prog 128 #[.pointer (some ⟨p, 0, none⟩), .int .i64 k] w fun e w' => e = .returned (.int .i64 (findE S k)) ∧ ∃ n, w' = w.drewN n := by
  have HA := Lib.hid (nask_ok w B p S h k)
  cases hk : isK S.l k with
  | true =>
    have hf : findE S k = 0 := by unfold findE; rw [hk]; rfl
    rw [hf]
    rw [show askV S k = .tuple #[.int .i64 ((nd S.l k.toNat).v : Int), .int .i64 ((nd S.l k.toNat).low : Int), .int .i64 ((nd S.l k.toNat).high : Int), .int .i64 0] from by unfold askV; rw [hk]; rfl] at HA
    clear hf hk h
    go_enter Tryz.func128, Tryz.ntmps128
    go_wp2_with fail
    refine HA.out.mono ?_
    rintro e w1 ⟨rfl, n, hw⟩
    have HW := Lib.hid hw
    clear hw
    go_wp2_with fail
    go_ret
    exact ⟨rfl, n, HW.out⟩
  | false =>
    have hf : findE S k = 3 := by unfold findE; rw [hk]; rfl
    rw [hf]
    rw [show askV S k = .tuple #[.int .i64 0, .int .i64 0, .int .i64 0, .int .i64 3] from by unfold askV; rw [hk]; rfl] at HA
    clear hf hk h
    go_enter Tryz.func128, Tryz.ntmps128
    go_wp2_with fail
    refine HA.out.mono ?_
    rintro e w1 ⟨rfl, n, hw⟩
    have HW := Lib.hid hw
    clear hw
    go_wp2_with fail
    go_ret
    exact ⟨rfl, n, HW.out⟩
/-! ### the walk of Asks -/
def askC (bs ss vs wb : Nat) : Value := .func (.func 170) #[] #[.pointer (some ⟨bs, 0, none⟩), .pointer (some ⟨ss, 0, none⟩), .pointer (some ⟨vs, 0, none⟩), .pointer (some ⟨wb, 0, none⟩)]
structure AskM (w : World) (B p bs ss vs wb ms mv : Nat) (S : NS) (s t : Nat → Bool) : Prop where
  sto : Sto w B p S
  b1 : Box1 w bs (.map (some ms))
  b2 : Box1 w ss (.pointer (some ⟨p, 0, none⟩))
  b3 : Box1 w vs (.map (some mv))
  b4 : Box1 w wb (askC bs ss vs wb)
  sn : SetAt w ms S.l.length s
  vr : SetAt w mv 256 t
  ne : ms ≠ mv
theorem AskM.below {w w' : World} {B p bs ss vs wb ms mv : Nat} {S : NS} {s t : Nat → Bool} (h : AskM w B p bs ss vs wb ms mv S s t) (hb : Below w.heap.size w w') : AskM w' B p bs ss vs wb ms mv S s t :=
  ⟨h.sto.below hb, h.b1.below hb, h.b2.below hb, h.b3.below hb, h.b4.below hb, MapAt.below h.sn hb, MapAt.below h.vr hb, h.ne⟩
theorem AskM.seen {w w' : World} {B p bs ss vs wb ms mv : Nat} {S : NS} {s t s' : Nat → Bool} (h : AskM w B p bs ss vs wb ms mv S s t) (hs : SetAt w' ms S.l.length s') (hg : w.grownBy w' (some ms)) : AskM w' B p bs ss vs wb ms mv S s' t := by
  have hk : Kb (fun _ => false) w w' := MapAt.kb h.sn hg _
  exact ⟨h.sto.kb hk rfl rfl rfl rfl rfl, h.b1.kb hk, h.b2.kb hk, h.b3.kb hk, h.b4.kb hk, hs, MapAt.grown h.vr hg (fun e => h.ne (by injection e with e; exact e.symm)), h.ne⟩
theorem AskM.told {w w' : World} {B p bs ss vs wb ms mv : Nat} {S : NS} {s t t' : Nat → Bool} (h : AskM w B p bs ss vs wb ms mv S s t) (hs : SetAt w' mv 256 t') (hg : w.grownBy w' (some mv)) : AskM w' B p bs ss vs wb ms mv S s t' := by
  have hk : Kb (fun _ => false) w w' := MapAt.kb h.vr hg _
  exact ⟨h.sto.kb hk rfl rfl rfl rfl rfl, h.b1.kb hk, h.b2.kb hk, h.b3.kb hk, h.b4.kb hk, MapAt.grown h.sn hg (fun e => h.ne (by injection e)), hs, h.ne⟩
def AskWalked (B p bs ss vs wb ms mv : Nat) (S : NS) (k : Nat) (s t : Nat → Bool) (w : World) (e : Ending) (w' : World) : Prop :=
  e = .returned (.tuple #[]) ∧ ∃ s' t', AskM w' B p bs ss vs wb ms mv S s' t' ∧ AskPost S k s t s' t' ∧ Om ms mv w w'
theorem app14 (a b c d e : Value) : (#[a] ++ #[b, c, d, e] : Array Value) = #[a, b, c, d, e] := rfl
theorem call_ask (args : Array Value) (w : World) : (callFunc 170 args).run Tryz.prog w = .ok (.enter 170 args) w := MuLone.run_callFunc_enter Tryz.func170 (by kernel_rfl) rfl args w
set_option maxRecDepth 100000 in
set_option maxHeartbeats 4000000 in
theorem ask_ok (B p bs ss vs wb ms mv : Nat) (S : NS) : ∀ (f : Nat) (w : World) (k : Nat) (s t : Nat → Bool), AskM w B p bs ss vs wb ms mv S s t → isB S.l k = true → S.vars - (nd S.l k).v < f → AskInv S s t (nd S.l k).v →
    Calls Tryz.prog 170 #[.int .i64 (k : Int), .pointer (some ⟨bs, 0, none⟩), .pointer (some ⟨ss, 0, none⟩), .pointer (some ⟨vs, 0, none⟩), .pointer (some ⟨wb, 0, none⟩)] w (AskWalked B p bs ss vs wb ms mv S k s t w) := by
  intro f
  induction f with
  | zero => intro w k s t _ _ hf; omega
  | succ f ih =>
    intro w k s t hm hk hf hi
    have IH := Lib.hid ih
    clear ih
    have hW := hm.sto.wf
    have hlm := hW.lm
    have hkl := isB_lt hk
    have HM := Lib.hid hm; have HW := Lib.hid hW; have HK := Lib.hid hk; have HI := Lib.hid hi; have HFU := Lib.hid hf
    have HKEY := Lib.hid (keyI k (by omega))
    have x1 : w.cell? ⟨bs, 0, none⟩ = some (.map (some ms)) := hm.b1.cell
    have x2 : w.cell? ⟨ss, 0, none⟩ = some (.pointer (some ⟨p, 0, none⟩)) := hm.b2.cell
    have hat := setM_at s k
    clear hm hW hk hi hf
    by_cases hk2 : k < 2
    · have d1 : decide ((k : Int) < 2) = true := decide_eq_true (by omega)
      have HP := Lib.hid (AskPost.leaf hk2 HI.out)
      clear hat hk2
      go_enter Tryz.func170, Tryz.ntmps170
      go_wp2_with fail
      refine bodyPost_ret (results_none rfl _ _ _) rfl ?_
      exact ⟨rfl, s, t, HM.out, HP.out, Only.refl _ _⟩
    have d1 : decide ((k : Int) < 2) = false := decide_eq_false (by omega)
    have h2 : 2 ≤ k := by omega
    cases hsk : s k with
    | true =>
      have hat2 : atF (setM s) (.int .i64 (k : Int)) (.bool false) = .bool true := by unfold atF; rw [hat, hsk]; rfl
      have hrl := run_mlook 106 4 (Maps.int_keyed Tryz.underlying3) Tryz.underlying106 (zeroB _) HM.out.sn _ _ HKEY.out
      rw [hat2] at hrl
      have HP := Lib.hid (AskPost.seen hsk HI.out)
      clear hat hat2 hsk hk2
      go_enter Tryz.func170, Tryz.ntmps170
      go_wp2_with fail
      refine bodyPost_ret (results_none rfl _ _ _) rfl ?_
      exact ⟨rfl, s, t, HM.out, HP.out, Only.refl _ _⟩
    | false =>
      have hat2 : atF (setM s) (.int .i64 (k : Int)) (.bool false) = .bool false := by unfold atF; rw [hat, hsk]; rfl
      have hrl := run_mlook 106 4 (Maps.int_keyed Tryz.underlying3) Tryz.underlying106 (zeroB _) HM.out.sn _ _ HKEY.out
      rw [hat2] at hrl
      have hcm : cntS s S.l.length < maxLen := by have := cntS_le s S.l.length; unfold maxLen; omega
      have HCM := Lib.hid hcm
      have HCN := Lib.hid (cnt_setB s hkl)
      clear hat hat2 hsk hcm hk2
      go_enter Tryz.func170, Tryz.ntmps170
      go_wp2_with (at_mapUpdate; refine wpList_msetn rfl (.tmp 17) (.tmp 18) (.const (.bool true)) 106 rfl 4 (Maps.int_keyed Tryz.underlying3) Tryz.underlying106 rfl HM.out.sn HCM.out _ _ _ rfl rfl HKEY.out _ HCN.out ?_)
      rw [setM_set]
      intro w1 hs1 hg1
      clear hrl
      have HM1 := Lib.hid (HM.out.seen hs1 hg1)
      have HO1 := Lib.hid (show Om ms mv w w1 from Om.grown1 hg1)
      clear hs1 hg1 x1 x2
      have x2 : w1.cell? ⟨ss, 0, none⟩ = some (.pointer (some ⟨p, 0, none⟩)) := HM1.out.b2.cell
      obtain ⟨hv0, _, hlo, hhi, hvl, hvh⟩ := HW.out.kid k h2 HK.out
      have hv256 := HW.out.v256
      have HA := Lib.hid (nask_ok w1 B p S HM1.out.sto (k : Int))
      rw [askV_yes (by rw [isK_nat]; exact HK.out), Int.toNat_natCast] at HA
      have HKID := Lib.hid (And.intro hv0 (And.intro hlo (And.intro hhi (And.intro hvl hvh))))
      have HIL := Lib.hid (HI.out.low HW.out h2 HK.out)
      have HKV := Lib.hid (keyI (nd S.l k).v (by omega))
      have HCV := Lib.hid (cnt_setB t (show (nd S.l k).v < 256 by omega))
      have hcv : cntS t 256 < maxLen := by have := cntS_le t 256; unfold maxLen; omega
      have HCX := Lib.hid hcv
      obtain ⟨v, hv⟩ : ∃ v, (nd S.l k).v = v := ⟨_, rfl⟩
      obtain ⟨lo, hl⟩ : ∃ lo, (nd S.l k).low = lo := ⟨_, rfl⟩
      obtain ⟨hi, hh⟩ : ∃ hi, (nd S.l k).high = hi := ⟨_, rfl⟩
      rw [hv, hl, hh] at HA
      rw [hv] at HKV HCV
      have HV := Lib.hid hv; have HL := Lib.hid hl; have HH := Lib.hid hh
      clear hv0 hlo hhi hvl hvh hv256 hcv hv hl hh
      go_wp2_with fail
      refine HA.out.mono ?_
      rintro e w2 ⟨rfl, nq, hw2⟩
      have hb2 : Below w1.heap.size w1 w2 := by rw [hw2]; exact bdN' _ _
      have HM2 := Lib.hid (HM1.out.below hb2)
      have HO2 := Lib.hid (HO1.out.trans (Om.of_below hb2))
      clear hw2 hb2 x2
      have x3 : w2.cell? ⟨vs, 0, none⟩ = some (.map (some mv)) := HM2.out.b3.cell
      go_wp2_with (at_mapUpdate; refine wpList_msetn rfl (.tmp 27) (.tmp 28) (.const (.bool true)) 106 rfl 4 (Maps.int_keyed Tryz.underlying3) Tryz.underlying106 rfl HM2.out.vr HCX.out _ _ _ rfl rfl HKV.out _ HCV.out ?_)
      rw [setM_set]
      intro w3 hs3 hg3
      have HM3 := Lib.hid (HM2.out.told hs3 hg3)
      have HO3 := Lib.hid (HO2.out.trans (Om.grown2 hg3))
      clear hs3 hg3 x3
      have x4 : w3.cell? ⟨wb, 0, none⟩ = some (askC bs ss vs wb) := HM3.out.b4.cell
      unfold askC at x4
      have hen := call_ask
      have HC1 := Lib.hid (IH.out w3 (nd S.l k).low _ _ HM3.out HKID.out.2.1 (by have := HFU.out; have := HKID.out; omega) (by rw [← HV.out]; exact HIL.out))
      rw [HL.out] at HC1
      go_wp2_with fail
      refine HC1.out.mono ?_
      rintro e w4 ⟨rfl, s4, t4, hm4, hp4, ho4⟩
      have HM4 := Lib.hid hm4; have HO4 := Lib.hid (HO3.out.trans ho4)
      rw [← HL.out, ← HV.out] at hp4
      have HP4 := Lib.hid hp4
      clear hm4 hp4 ho4 x4
      have x4 : w4.cell? ⟨wb, 0, none⟩ = some (askC bs ss vs wb) := HM4.out.b4.cell
      unfold askC at x4
      have HC2 := Lib.hid (IH.out w4 (nd S.l k).high _ _ HM4.out HKID.out.2.2.1 (by have := HFU.out; have := HKID.out; omega) (HI.out.high HW.out h2 HK.out HP4.out))
      rw [HH.out] at HC2
      go_wp2_with fail
      refine HC2.out.mono ?_
      rintro e w5 ⟨rfl, s5, t5, hm5, hp5, ho5⟩
      rw [← HH.out] at hp5
      have HM5 := Lib.hid hm5; have HO5 := Lib.hid (HO4.out.trans ho5)
      have HP5 := Lib.hid (HI.out |> fun hi => AskPost.node HW.out h2 HK.out hi HP4.out hp5)
      clear hm5 hp5 ho5 x4 hen
      go_wp2_with fail
      go_end0
      exact ⟨rfl, s5, t5, HM5.out, HP5.out, HO5.out⟩
end Go.Proofs.YtobhjkfkdkiigaaGreatDoor

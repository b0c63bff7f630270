/- Layer 7: the contracts of name, widths, Check, Bits. -/
import Derived.Test.YtedfakpmdncnmaaDoorLayQ
import Derived.Test.YtedfakpmdncnmaaDoorShelfL
import Derived.Test.YtedfakpmdncnmaaDoorArith
import Derived.Test.YtedfakpmdncnmaaDoorMap
import Derived.Test.YtedfakpmdncnmaaDoorCountJ
import Derived.StringKeys
import Derived.BigQuiet
namespace Go.Proofs.YtedfakpmdncnmaaDoor
open Go.RowKit LY
set_option maxHeartbeats 1600000 in
theorem odd_ok (x : Nat) (W : World) : Calls Tryd.prog 26 #[.int .i32 (x : Int)] W fun e w' => e = .returned (.bool (oddR x)) ∧ ∃ q, w' = W.drewN q := by
  have h1 : decide ((x : Int) < 97) = decide (x < 97) := decide_eq_decide.2 (by omega)
  have h2 : decide ((122 : Int) < (x : Int)) = decide (122 < x) := decide_eq_decide.2 (by omega)
  have h3 : decide ((x : Int) < 65) = decide (x < 65) := decide_eq_decide.2 (by omega)
  have h4 : decide ((90 : Int) < (x : Int)) = decide (90 < x) := decide_eq_decide.2 (by omega)
  have h5 : decide ((x : Int) < 48) = decide (x < 48) := decide_eq_decide.2 (by omega)
  have h6 : decide ((57 : Int) < (x : Int)) = decide (57 < x) := decide_eq_decide.2 (by omega)
  obtain ⟨b1, e1⟩ : ∃ b, decide (x < 97) = b := ⟨_, rfl⟩
  obtain ⟨b2, e2⟩ : ∃ b, decide (122 < x) = b := ⟨_, rfl⟩
  obtain ⟨b3, e3⟩ : ∃ b, decide (x < 65) = b := ⟨_, rfl⟩
  obtain ⟨b4, e4⟩ : ∃ b, decide (90 < x) = b := ⟨_, rfl⟩
  obtain ⟨b5, e5⟩ : ∃ b, decide (x < 48) = b := ⟨_, rfl⟩
  obtain ⟨b6, e6⟩ : ∃ b, decide (57 < x) = b := ⟨_, rfl⟩
  have HO : Hid (oddR x = ((b1 || b2) && ((b3 || b4) && (b5 || b6)))) := Lib.hid (by unfold oddR; rw [e1, e2, e3, e4, e5, e6])
  rw [e1] at h1
  rw [e2] at h2
  rw [e3] at h3
  rw [e4] at h4
  rw [e5] at h5
  rw [e6] at h6
  go_enter Tryd.func26, Tryd.ntmps26
  cases b1 <;> cases b2 <;> cases b3 <;> cases b4 <;> cases b5 <;> cases b6 <;>
    (go_wp2
     go_ret
     exact ⟨by rw [HO.out]; rfl, 0, rfl⟩)
theorem call_odd (args : Array Value) (w : World) : (callFunc 26 args).run Tryd.prog w = .ok (.enter 26 args) w := enters_of Tryd.func26 (by kernel_rfl) rfl args w
theorem odd_pred (w : World) : PredAt Tryd.prog 26 #[] encR oddR w := fun W x _ => odd_ok x W
set_option maxHeartbeats 1600000 in
theorem name_ok (s : ByteArray) (w : World) : Calls Tryd.prog 23 #[.string s] w fun e w' => e = .returned (.bool (nameB s)) ∧ Below w.heap.size w w' := by
  have hix := fun W => Tryd.strings_IndexFunc 26 #[] call_odd oddR s W (odd_pred W)
  have HIX := Lib.hid hix
  obtain ⟨iv, hiv⟩ : ∃ iv, Lib.idxFunc oddR true s = iv := ⟨_, rfl⟩
  rw [hiv] at HIX
  obtain ⟨n, hn⟩ : ∃ n, s.size = n := ⟨_, rfl⟩
  have HN : Hid (nameB s = (decide (n ≠ 0) && (decide (n ≤ 16) && decide (iv < 0)))) := Lib.hid (by unfold nameB; rw [hiv, hn])
  clear hix hiv
  by_cases h0 : n = 0
  · have hs : s = ByteArray.empty := ByteArray.size_eq_zero_iff.1 (by omega)
    subst hs
    go_enter Tryd.func23, Tryd.ntmps23
    go_wp2
    go_ret
    exact ⟨by rw [HN.out, h0]; rfl, Below.refl _ _⟩
  · have hne : s.toList.isEmpty = false := by
      rw [List.isEmpty_eq_false_iff]
      intro e
      apply h0
      rw [← hn, Lib.size_eq, ← Lib.toList_data, e]; rfl
    by_cases h16 : n ≤ 16
    · have d1 : decide ((n : Int) ≤ 16) = true := decide_eq_true (by omega)
      have HS := Lib.hid hn
      obtain ⟨t, ht⟩ : ∃ t, decide (iv < 0) = t := ⟨_, rfl⟩
      rw [ht, decide_eq_true h0, decide_eq_true h16] at HN
      clear h0 h16
      go_enter Tryd.func23, Tryd.ntmps23
      go_wp2_with fail
      refine (HIX.out _).mono ?_
      rintro e w1 ⟨rfl, hb1⟩
      have HB1 := Lib.hid hb1
      clear hb1
      go_wp2_with fail
      go_ret
      exact ⟨by rw [HN.out]; rfl, HB1.out⟩
    · have d1 : decide ((n : Int) ≤ 16) = false := decide_eq_false (by omega)
      have HS := Lib.hid hn
      rw [decide_eq_false h16] at HN
      clear h0 h16
      go_enter Tryd.func23, Tryd.ntmps23
      go_wp2_with fail
      go_ret
      exact ⟨by rw [HN.out]; simp, Below.refl _ _⟩

/-! ### sets as maps of bools -/
theorem run_mlook {P : Program} {w : World} {k : TypeId} {b n : Nat} {F : Lit → Option Value} (t : TypeId) (e : TypeId) (K : Maps.Keyed P k) (ht : P.underlying t = some (.map k e)) {z : Value} (hz : (zeroValue e).run P w = .ok z w)
    (h : MapAt w P k b n F) (key : Value) (kl : Lit) (hkey : keyOf P k key = some kl) : (Instr.lookup t (.map (some b)) key false).run P w = .ok (atF F kl z) w := by
  obtain ⟨D, hown, _, hv⟩ := h
  obtain ⟨v, ps, hrun, hr⟩ := hown.lookup K ht hz (zd := .held z) (zp := []) rfl hkey
  rw [(hv kl).2 z] at hr
  have := hR_inv hr
  subst this
  exact hrun
theorem zeroB (w : World) : (zeroValue 4).run Tryd.prog w = .ok (.bool false) w := by kernel_rfl
def nameM (doms : List Dm) (i : Nat) : Lit → Option Value
  | .string l => if (doms.take i).any (fun x => decide (x.name.data.toList = l)) then some (.bool true) else none
  | _ => none
theorem nameM_at (doms : List Dm) (i : Nat) : nameM doms i (.string (at_ doms i).name.data.toList) = if hadB doms i then some (.bool true) else none := by
  have e : ((doms.take i).any fun x => decide (x.name.data.toList = (at_ doms i).name.data.toList)) = hadB doms i := by
    unfold hadB
    congr 1
    funext x
    refine decide_eq_decide.2 ⟨fun h => ?_, fun h => by rw [h]⟩
    exact ByteArray.ext (Array.toList_inj.1 h)
  show (if _ then _ else _) = _
  rw [e]
theorem nameM_set {doms : List Dm} {i : Nat} {d : Dm} (h : doms[i]? = some d) : setF (nameM doms i) (.string d.name.data.toList) (.bool true) = nameM doms (i + 1) := by
  have et : doms.take (i + 1) = doms.take i ++ [d] := by rw [List.take_add_one, h]; rfl
  funext l
  unfold setF
  by_cases e : l = .string d.name.data.toList
  · subst e
    simp [nameM, Lit.sameKey, et]
  · rw [Maps.sameKey_ne e]
    simp only [Bool.false_eq_true, if_false]
    cases l with
    | string l =>
      have hl : ¬ d.name.data.toList = l := fun e2 => e (by rw [e2])
      simp [nameM, et, hl]
    | _ => rfl
theorem nameM_zero (doms : List Dm) : nameM doms 0 = fun _ => none := by
  funext l
  cases l <;> rfl
/-! ### domains in memory -/
def domCells (d : Dm) : List Value := [.string d.name, .int .i64 d.size]
theorem Cells.dom {w : World} {a : Option Addr} {es : List Dm} (h : Cells w a (es.flatMap domCells)) {i : Nat} {x : Dm} (hx : es[i]? = some x) :
    ∃ b off, a = some ⟨b, off, none⟩ ∧ b < w.heap.size ∧ w.cell? ⟨b, off + i * 2, none⟩ = some (.string x.name) ∧ w.cell? ⟨b, off + i * 2 + 1, none⟩ = some (.int .i64 x.size) := by
  have g0 := flat_get domCells 2 (fun _ => rfl) es i 0 x _ hx rfl
  have g1 := flat_get domCells 2 (fun _ => rfl) es i 1 x _ hx rfl
  obtain ⟨b, off, e, hb, hh⟩ := h (by intro h0; rw [h0] at g0; simp at g0)
  exact ⟨b, off, e, hb, hh _ _ g0, hh _ _ g1⟩
theorem widS_dom {d : Dm} (h1 : 1 ≤ d.size) (h2 : d.size ≤ 4611686018427387903) : widS d.size = (widD d : Int) ∧ widE d.size = 0 := widS_yes d.size h1 h2
def sumN (doms : List Dm) (i : Nat) : Nat := ((doms.take i).map widD).sum
theorem sumN_next {doms : List Dm} {i : Nat} {d : Dm} (h : doms[i]? = some d) : sumN doms (i + 1) = sumN doms i + widD d := by
  unfold sumN
  rw [List.take_add_one, h, List.map_append, List.sum_append]
  show _ + (widD d + 0) = _
  omega
theorem sumN_le {doms : List Dm} : ∀ i, i ≤ doms.length → goodN doms i = true → sumN doms i ≤ 30 * i
  | 0, _, _ => by simp [sumN]
  | i + 1, h, hg => by
    rw [goodN, Bool.and_eq_true, Bool.and_eq_true] at hg
    have h1 := sumN_le i (by omega) hg.1
    rw [sumN_next (at_get (by omega))]
    have := widD_le hg.2.1
    omega
def WPost (doms : List Dm) (w : World) (e : Ending) (w' : World) : Prop :=
  Below w.heap.size w w' ∧ ((mayB doms = false ∧ ∃ y A, e = .returned (.tuple #[y, .int .i64 A, .bool false])) ∨
    (mayB doms = true ∧ ∃ y, e = .returned (.tuple #[y, .int .i64 (allW doms : Int), .bool true]) ∧ w'.ownsRow w.heap.size 3 1 y doms.length (iV (doms.map widD))))
theorem may_bad {doms : List Dm} {i : Nat} (hi : i < doms.length) (h : (okD (at_ doms i) && !hadB doms i) = false) : mayB doms = false := by
  cases hm : mayB doms with
  | false => rfl
  | true =>
    unfold mayB at hm
    rw [Bool.and_eq_true] at hm
    have key : ∀ j, i < j → j ≤ doms.length → goodN doms j = true → False := by
      intro j hj hjl hg
      induction j with
      | zero => omega
      | succ j ih =>
        rw [goodN, Bool.and_eq_true] at hg
        by_cases e : i = j
        · subst e; rw [h] at hg; cases hg.2
        · exact ih (by omega) (by omega) hg.1
    exact (key doms.length hi (Nat.le_refl _) hm.1).elim
theorem okD_eq {d : Dm} : okD d = (decide (1 ≤ d.size) && (decide (d.size ≤ 1073741824) && nameB d.name)) := rfl
theorem own_not_map {w : World} {base e size n b c : Nat} {v : Value} {xs : List Value} {es : Array MapEntry} (h : w.ownsRow base e size v n xs) (hb : w.heap[b]? = some (.map es c)) : v.ownBlock ≠ some b := by
  rcases h.2 with ⟨h1, _⟩ | ⟨g, cap, cur, h1, _, hg, _⟩
  · rw [h1]; exact fun e => by cases e
  · rw [h1]
    intro e
    have e : some g = some b := e
    injection e with e
    subst e
    rw [hb] at hg
    injection hg with hg
    cases hg
theorem int_infoL : (Tryd.prog.info? 3).map (fun i => (i.zero, i.size, i.bytes)) = some (some (.int .i64 0), 1, 8) := by kernel_rfl
set_option maxRecDepth 100000 in
set_option maxHeartbeats 6400000 in
theorem widths_ok (w : World) (a : Option Addr) (doms : List Dm) (c : Nat) (hl : doms.length ≤ 40) (hc : Cells w a (doms.flatMap domCells)) (hnm : ∀ d ∈ doms, d.name.size ≤ maxLen) :
    Calls Tryd.prog 16 #[.slice a doms.length c] w (WPost doms w) := by
  have hmk := @run_makeMap Tryd.prog
  obtain ⟨l0, hl0, lz0, lz1, lz2⟩ := info_parts int_infoL
  obtain ⟨am, ham⟩ : ∃ am, am = w.heap.size := ⟨_, rfl⟩
  obtain ⟨w1, hw1⟩ : ∃ w1, w1 = w.alloc (.map #[] 0) := ⟨_, rfl⟩
  have hb1 : Below w.heap.size w w1 := by rw [hw1]; exact (Below.refl _ _).alloc (Nat.le_refl _) _
  have HM1 : Hid (MapAt w1 Tryd.prog 9 am 0 (nameM doms 0)) := Lib.hid (by rw [hw1, ham, nameM_zero]; exact MapAt.made w Tryd.prog 9)
  obtain ⟨N, hN⟩ : ∃ N, doms.length = N := ⟨_, rfl⟩
  have HC := Lib.hid hc; have HNM := Lib.hid hnm; have HN := Lib.hid hN; have HW1 := Lib.hid hw1; have HAM := Lib.hid ham; have HB1 := Lib.hid hb1
  rw [hN] at hl ⊢
  clear hc hnm hN hw1 ham hb1
  go_enter Tryd.func16, Tryd.ntmps16
  go_upto_region 2 with (fail)
  rw [← HW1.out, ← HAM.out]
  go_wp2_with fail
  go_loopg [2, 3, 13] N (fun mm u x y wr => ∃ i : Nat, mm + i = N ∧ x = .int .i64 (sumN doms i : Int) ∧ y = .int .i64 (i : Int) ∧ goodN doms i = true ∧ Below w.heap.size w wr ∧ wr.ownsRow w.heap.size 3 1 u i (iV ((doms.take i).map widD)) ∧ MapAt wr Tryd.prog 9 am i (nameM doms i))
  case atStart => exact ⟨0, by omega, rfl, rfl, rfl, HB1.out, World.ownsRow_nil _ _ _ _, HM1.out⟩
  case round =>
    obtain ⟨i, hm, rfl, rfl, hg, hb, hr, hmap⟩ := hrel
    have HM := Lib.hid hm; have HG := Lib.hid hg; have HB := Lib.hid hb; have HR := Lib.hid hr; have HMP := Lib.hid hmap
    have hsl := sumN_le i (by rw [HN.out]; omega) hg
    have hi40 : i ≤ 40 := by omega
    obtain ⟨sn, hsn⟩ : ∃ sn, sumN doms i = sn := ⟨_, rfl⟩
    have HSN := Lib.hid hsn
    rw [hsn] at hsl ⊢
    clear hm hg hb hr hmap hsn
    by_cases hi : i < N
    · have hd := at_get (doms := doms) (i := i) (by rw [HN.out]; exact hi)
      obtain ⟨d, hde⟩ : ∃ d, at_ doms i = d := ⟨_, rfl⟩
      rw [hde] at hd
      obtain ⟨s, z⟩ := d
      obtain ⟨b0, o0, rfl, hb0, k0, k1⟩ := (HC.out.below HB.out).dom hd
      have hss : s.size ≤ maxLen := HNM.out _ (List.mem_of_getElem? hd)
      obtain ⟨W1, hW1⟩ : ∃ W1, W1 = wr.alloc (.cells #[.string s, .int .i64 z] 26) := ⟨_, rfl⟩
      have hbb1 : Below wr.heap.size wr W1 := by rw [hW1]; exact (Below.refl _ _).alloc (Nat.le_refl _) _
      have hk1 : Blk W1 wr.heap.size 26 #[.string s, .int .i64 z] := by rw [hW1]; exact Blk.new_ _ _ _
      obtain ⟨bd, hbd⟩ : ∃ bd, wr.heap.size = bd := ⟨_, rfl⟩
      rw [hbd] at hk1
      have c0 : W1.cell? ⟨bd, 0, none⟩ = some (.string s) := hk1.cell 0
      have c1 : W1.cell? ⟨bd, 1, none⟩ = some (.int .i64 z) := hk1.cell 1
      have HK1 := Lib.hid hk1
      have HBB1 := Lib.hid (HB.out.trans (hbb1.mono HB.out.size)); have HR1 := Lib.hid (own_below HR.out hbb1); have HMP1 := Lib.hid (HMP.out.below hbb1)
      have HKEY : Hid (keyOf Tryd.prog 9 (.string s) = some (.string s.data.toList)) := Lib.hid (WideMaps.keyOf_string_mk Tryd.underlying9 hss)
      have HD := Lib.hid hd; have HDE := Lib.hid hde; have HW1 := Lib.hid hW1; have HBD := Lib.hid hbd
      clear hd hde hss hW1 hbb1 hk1 hbd
      obtain ⟨ws, hws⟩ : ∃ ws, widS z = ws := ⟨_, rfl⟩
      obtain ⟨es, hes⟩ : ∃ es, widE z = es := ⟨_, rfl⟩
      have HWI := Lib.hid (width_ok z W1)
      rw [hws, hes] at HWI
      have HIN : Hid (i < doms.length) := Lib.hid (by rw [HN.out]; exact hi)
      have BAD : ∀ W', Below w.heap.size w W' → (okD (at_ doms i) && !hadB doms i) = false → WPost doms w (.returned (.tuple #[.slice none 0 0, .int .i64 0, .bool false])) W' := fun W' hb h => ⟨hb, .inl ⟨may_bad HIN.out h, _, _, rfl⟩⟩
      have HBAD := Lib.hid BAD
      rw [HDE.out] at HBAD
      clear BAD
      by_cases hz1 : 1 ≤ z ∧ z ≤ 4611686018427387903
      · obtain ⟨hz1, hz2⟩ := hz1
        obtain ⟨e1, e2⟩ := widS_dom (d := ⟨s, z⟩) hz1 hz2
        obtain ⟨wd, hwd⟩ : ∃ wd, widD ⟨s, z⟩ = wd := ⟨_, rfl⟩
        have hwsd : ws = (wd : Int) := (hws.symm.trans e1).trans (by rw [hwd])
        have HWD := Lib.hid hwd
        clear hwd
        have hes0 : es = 0 := hes.symm.trans e2
        subst hes0
        clear hws hes e1 e2
        subst hwsd
        by_cases hz3 : z ≤ 1073741824
        · have d3 : decide ((1073741824 : Int) < z) = false := decide_eq_false (by omega)
          have HOK : Hid (okD ⟨s, z⟩ = nameB s) := Lib.hid (by
            rw [okD_eq, decide_eq_true (show 1 ≤ (⟨s, z⟩ : Dm).size from hz1), decide_eq_true (show (⟨s, z⟩ : Dm).size ≤ 1073741824 from hz3)]; rfl)
          clear hz1 hz2 hz3
          go_upto_region 5 with (fail)
          rw [← HW1.out]
          rw [HBD.out]
          go_wp2_with fail
          refine HWI.out.mono ?_
          rintro e w' ⟨rfl, rfl⟩
          go_wp2_with fail
          refine (name_ok s W1).mono ?_
          rintro e W2 ⟨rfl, hb2⟩
          have HK2 := Lib.hid (HK1.out.below hb2 HK1.out.lt)
          have c0' : W2.cell? ⟨bd, 0, none⟩ = some (.string s) := HK2.out.cell 0
          have HB2 := Lib.hid (HBB1.out.trans (hb2.mono HBB1.out.size)); have HR2 := Lib.hid (own_below HR1.out hb2); have HMP2 := Lib.hid (HMP1.out.below hb2)
          obtain ⟨t, ht⟩ : ∃ t, nameB s = t := ⟨_, rfl⟩
          rw [ht] at HOK ⊢
          clear hb2 ht c0 c1
          cases t with
          | false =>
            go_wp2_with fail
            refine bodyPost_ret (v := .tuple #[.slice none 0 0, .int .i64 0, .bool false]) (by simp [results, Tryd.results16, go_sem]) rfl ?_
            exact HBAD.out _ HB2.out (by rw [HOK.out]; rfl)
          | true =>
            obtain ⟨hd, hhd⟩ : ∃ hd, hadB doms i = hd := ⟨_, rfl⟩
            have hrl := run_mlook 53 4 (Maps.string_keyed Tryd.underlying9) Tryd.underlying53 (zeroB _) HMP2.out _ _ HKEY.out
            have hat : atF (nameM doms i) (.string s.data.toList) (.bool false) = .bool hd := by
              have h := nameM_at doms i
              rw [HDE.out, hhd] at h
              unfold atF
              rw [show (Lit.string s.data.toList) = .string (⟨s, z⟩ : Dm).name.data.toList from rfl, h]
              cases hd <;> rfl
            rw [hat] at hrl
            have HHD := Lib.hid hhd
            rw [HHD.out] at HBAD
            clear hat hhd
            cases hd with
            | true =>
              go_wp2_with fail
              refine bodyPost_ret (v := .tuple #[.slice none 0 0, .int .i64 0, .bool false]) (by simp [results, Tryd.results16, go_sem]) rfl ?_
              exact HBAD.out _ HB2.out (by simp)
            | false =>
              have hok : okD ⟨s, z⟩ = true := HOK.out
              have hwd30 : wd ≤ 30 := by rw [← HWD.out]; exact widD_le hok
              obtain ⟨q, hq⟩ : ∃ q, sn + wd = q := ⟨_, rfl⟩
              have hqi : (sn : Int) + (wd : Int) = (q : Int) := by omega
              have hq2 : q ≤ 1230 := by omega
              have HG2 : Hid (goodN doms (i + 1) = true) := Lib.hid (by rw [goodN, HG.out, HDE.out, hok, HHD.out]; rfl)
              have HSN2 : Hid (sumN doms (i + 1) = q) := Lib.hid (by rw [sumN_next HD.out, HSN.out, HWD.out]; exact hq)
              have HCN : Hid ((if (nameM doms i (.string s.data.toList)).isSome then i else i + 1) = i + 1) := Lib.hid (by
                have h := nameM_at doms i
                rw [HDE.out, HHD.out] at h
                rw [show (Lit.string s.data.toList) = .string (⟨s, z⟩ : Dm).name.data.toList from rfl, h]; rfl)
              have him : i < maxLen := by unfold maxLen; omega
              have HIW : Hid (iV ((doms.take (i + 1)).map widD) = iV ((doms.take i).map widD) ++ [.int .i64 (wd : Int)]) := Lib.hid (by
                rw [List.take_add_one, HD.out, List.map_append, iV_app]
                show _ ++ iV [widD ⟨s, z⟩] = _
                rw [HWD.out]; rfl)
              clear hok hq
              go_wp2_with (at_mapUpdate; refine wpList_msetn rfl (.tmp 42) (.tmp 44) (.const (.bool true)) 53 rfl 4 (Maps.string_keyed Tryd.underlying9) Tryd.underlying53 rfl HMP2.out him _ _ _ rfl rfl HKEY.out _ HCN.out ?_)
              intro w3 hm3 hg3
              have HMP3 : Hid (MapAt w3 Tryd.prog 9 am (i + 1) (nameM doms (i + 1))) := Lib.hid (by rw [← nameM_set HD.out]; exact hm3)
              have HB3 := Lib.hid (HB2.out.grown hg3 HB2.out.size (fun j e => by injection e with e; have := HAM.out; omega))
              have HR3 := Lib.hid (own_kb HR2.out (HMP2.out.kb hg3 (fun _ => false)) rfl)
              have hs3 := HB3.out.size
              clear hm3 hg3 c0'
              go_wp2_with (at_builtin; refine wpList_append_sep rfl (.tmp 45) (.tmp 47) 32 rfl w.heap.size 3 l0 (.int .i64 0) 1 8 Tryd.underlying32 hl0 lz0 lz1 lz2 rfl (by decide) u2 i _ rfl (HR3.out.alloc _) w3.heap.size 0 1 1 [.int .i64 (wd : Int)] rfl rfl (lit_one _ _ _) (ones_int _) (by unfold maxLen; omega) (by omega) (by simp; omega) ?_)
              intro y4 w4 hown4 hg4 hsep4
              have HR4 : Hid (w4.ownsRow w.heap.size 3 1 y4 (i + 1) (iV ((doms.take (i + 1)).map widD))) := Lib.hid (by rw [HIW.out, List.map_take]; exact hown4)
              have HB4 : Hid (Below w.heap.size w w4) := Lib.hid ((HB3.out.alloc hs3 (.cells #[.int .i64 (wd : Int)] 3)).grown hg4 (Nat.le_trans hs3 (Nat.le_of_lt (by simp))) (fun j hj => (HR3.out.lt j hj).1))
              have HMP4 : Hid (MapAt w4 Tryd.prog 9 am (i + 1) (nameM doms (i + 1))) := Lib.hid (by
                have h := HMP3.out.below ((Below.refl _ _).alloc (Nat.le_refl _) (.cells #[.int .i64 (wd : Int)] 3))
                obtain ⟨es, cc, hbk⟩ := h.block
                exact h.grown hg4 (own_not_map (HR3.out.alloc _) hbk).symm)
              clear hown4 hg4 hsep4
              go_wp2_with fail
              go_roundg (N - (i + 1))
              case measure => have := HM.out; omega
              case rel => exact ⟨i + 1, by have := HM.out; omega, by rw [HSN2.out], by go_num, HG2.out, HB4.out, HR4.out, HMP4.out⟩
        · have d3 : decide ((1073741824 : Int) < z) = true := decide_eq_true (by omega)
          have HOK : Hid (okD ⟨s, z⟩ = false) := Lib.hid (by
            rw [okD_eq, decide_eq_false (show ¬ (⟨s, z⟩ : Dm).size ≤ 1073741824 from hz3)]; simp)
          clear hz1 hz2 hz3
          go_upto_region 5 with (fail)
          rw [← HW1.out]
          rw [HBD.out]
          go_wp2_with fail
          refine HWI.out.mono ?_
          rintro e w' ⟨rfl, rfl⟩
          go_wp2_with fail
          refine bodyPost_ret (v := .tuple #[.slice none 0 0, .int .i64 0, .bool false]) (by simp [results, Tryd.results16, go_sem]) rfl ?_
          exact HBAD.out _ HBB1.out (by rw [HOK.out]; rfl)
      · have hes1 : es = 1 := hes.symm.trans (widS_no z (by omega)).2
        subst hes1
        have HOK : Hid (okD ⟨s, z⟩ = false) := Lib.hid (by
          rw [okD_eq]
          by_cases h1 : 1 ≤ z
          · rw [decide_eq_false (show ¬ (⟨s, z⟩ : Dm).size ≤ 1073741824 from (by show ¬ z ≤ _; omega))]; simp
          · rw [decide_eq_false (show ¬ 1 ≤ (⟨s, z⟩ : Dm).size from h1)]; rfl)
        clear hz1 hws hes
        go_upto_region 5 with (fail)
        rw [← HW1.out]
        rw [HBD.out]
        go_wp2_with fail
        refine HWI.out.mono ?_
        rintro e w' ⟨rfl, rfl⟩
        go_wp2_with fail
        refine bodyPost_ret (v := .tuple #[.slice none 0 0, .int .i64 0, .bool false]) (by simp [results, Tryd.results16, go_sem]) rfl ?_
        exact HBAD.out _ HBB1.out (by rw [HOK.out]; rfl)
    · have hiN : i = N := by have := HM.out; omega
      subst hiN
      have HALL : Hid (allW doms = sn) := Lib.hid (by
        rw [← HSN.out]; unfold allW sumN
        rw [← HN.out, List.take_length])
      have HMAY : Hid (mayB doms = (decide (sn ≤ 256) && decide (i ≤ 32))) := Lib.hid (by
        unfold mayB
        rw [HN.out, HG.out, HALL.out, Bool.true_and])
      have HRF : Hid (wr.ownsRow w.heap.size 3 1 u2 i (iV (doms.map widD))) := Lib.hid (by
        have h := HR.out
        rw [List.take_of_length_le (by rw [HN.out]; exact Nat.le_refl _)] at h
        exact h)
      obtain ⟨b2, hb2⟩ : ∃ b2, decide (i ≤ 32) = b2 := ⟨_, rfl⟩
      have d2 : decide ((i : Int) ≤ 32) = b2 := by rw [← hb2]; exact decide_eq_decide.2 (by omega)
      by_cases h1 : sn ≤ 256
      · have d1 : decide ((sn : Int) ≤ 256) = true := decide_eq_true (by omega)
        rw [hb2, decide_eq_true h1, Bool.true_and] at HMAY
        clear h1 hb2
        go_wp2_with fail
        refine bodyPost_ret (v := .tuple #[u2, .int .i64 (sn : Int), .bool b2]) (by simp [results, Tryd.results16, go_sem]) rfl ?_
        cases b2 with
        | true => exact ⟨HB.out, .inr ⟨HMAY.out, u2, by rw [HALL.out], by rw [HN.out]; exact HRF.out⟩⟩
        | false => exact ⟨HB.out, .inl ⟨HMAY.out, u2, _, rfl⟩⟩
      · have d1 : decide ((sn : Int) ≤ 256) = false := decide_eq_false (by omega)
        rw [hb2, decide_eq_false h1, Bool.false_and] at HMAY
        clear h1 hb2
        go_wp2_with fail
        refine bodyPost_ret (v := .tuple #[u2, .int .i64 (sn : Int), .bool false]) (by simp [results, Tryd.results16, go_sem]) rfl ?_
        exact ⟨HB.out, .inl ⟨HMAY.out, u2, _, rfl⟩⟩
end Go.Proofs.YtedfakpmdncnmaaDoor

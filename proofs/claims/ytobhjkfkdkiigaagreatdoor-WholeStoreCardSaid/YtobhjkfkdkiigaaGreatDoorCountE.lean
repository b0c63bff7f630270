/- Layer 6: the contract of count.within. -/
import Derived.Test.YtobhjkfkdkiigaaGreatDoorCountC
import Derived.Test.YtobhjkfkdkiigaaGreatDoorCountD
namespace Go.Proofs.YtobhjkfkdkiigaaGreatDoor
open Go.RowKit HP NP
/-! ### numbers of variables, in plain Lean -/
def inV (S : NS) (z : Int) : Bool := decide (0 ≤ z) && decide (z < (S.vars : Int))
theorem inV_iff {S : NS} {z : Int} : inV S z = true ↔ 0 ≤ z ∧ z < (S.vars : Int) := by unfold inV; simp
def okV (S : NS) (zs : List Int) : Prop := (∀ z ∈ zs, inV S z = true) ∧ zs.Nodup
def srt (zs : List Int) : List Int := zs.mergeSort fun x y => decide (x ≤ y)
theorem srt_perm (zs : List Int) : (srt zs).Perm zs := List.mergeSort_perm zs _
theorem srt_mem {zs : List Int} {z : Int} : z ∈ srt zs ↔ z ∈ zs := (srt_perm zs).mem_iff
theorem srt_len (zs : List Int) : (srt zs).length = zs.length := (srt_perm zs).length_eq
theorem srt_self {zs : List Int} (h : zs.Pairwise (· ≤ ·)) : srt zs = zs := List.mergeSort_of_pairwise (h.imp fun h => by simpa using h)
/-- a set of numbers told by a list has as many as the list just where none stands there twice -/
theorem cnt_list : ∀ (l : List Nat) (n : Nat), (∀ v ∈ l, v < n) → cntS (fun v => decide (v ∈ l)) n ≤ l.length ∧ (cntS (fun v => decide (v ∈ l)) n = l.length ↔ l.Nodup)
  | [], n, _ => by
    have : cntS (fun v => decide (v ∈ ([] : List Nat))) n = 0 := by unfold cntS; simp
    rw [this]; simp
  | a :: l, n, h => by
    obtain ⟨h1, h2⟩ := cnt_list l n fun v hv => h v (by simp [hv])
    by_cases ha : a ∈ l
    · have e : cntS (fun v => decide (v ∈ a :: l)) n = cntS (fun v => decide (v ∈ l)) n := cntS_congr n fun j => by
        simp only [decide_eq_true_eq, List.mem_cons]
        exact ⟨fun hj => by rcases hj with rfl | hj; exact ha; exact hj, .inr⟩
      rw [e, List.length_cons, List.nodup_cons]
      exact ⟨by omega, ⟨fun hh => by omega, fun hh => absurd ha hh.1⟩⟩
    · have e : cntS (fun v => decide (v ∈ a :: l)) n = cntS (fun v => decide (v ∈ l)) n + 1 := by
        have hs := cntS_set (s := fun v => decide (v ∈ l)) (n := n) (k := a) (h a (by simp)) (by simpa using ha)
        rw [← hs]
        refine cntS_congr n fun j => ?_
        rw [setB_iff]
        simp only [decide_eq_true_eq, List.mem_cons]
        exact ⟨fun hj => by rcases hj with rfl | hj; exact .inr rfl; exact .inl hj, fun hj => by rcases hj with hj | rfl; exact .inr hj; exact .inl rfl⟩
      rw [e, List.length_cons, List.nodup_cons]
      exact ⟨by omega, ⟨fun hh => ⟨ha, h2.1 (by omega)⟩, fun hh => by have := h2.2 hh.2; omega⟩⟩
/-- the map holds what the first so many say -/
structure PosI (S : NS) (l : List Int) (i : Nat) (m : Nat → Option Nat) : Prop where
  rng : ∀ j, j < i → ∃ v : Nat, l[j]? = some (v : Int) ∧ v < S.vars ∧ (m v).isSome = true
  val : ∀ v j, m v = some j → j < i ∧ l[j]? = some (v : Int)
theorem PosI.start (S : NS) (l : List Int) : PosI S l 0 (fun _ => none) := ⟨fun j h => by omega, fun v j h => by cases h⟩
theorem PosI.next {S : NS} {l : List Int} {i v : Nat} {m : Nat → Option Nat} (h : PosI S l i m) (hv : l[i]? = some (v : Int)) (hs : v < S.vars) : PosI S l (i + 1) (updM m v i) := by
  refine ⟨fun j hj => ?_, fun u j hu => ?_⟩
  · rcases Nat.lt_or_ge j i with hlt | hge
    · obtain ⟨u, h1, h2, h3⟩ := h.rng j hlt
      refine ⟨u, h1, h2, ?_⟩
      unfold updM
      split
      · rfl
      · exact h3
    · obtain rfl : j = i := by omega
      exact ⟨v, hv, hs, by unfold updM; rw [if_pos rfl]; rfl⟩
  · unfold updM at hu
    split at hu
    · rename_i e
      injection hu with hu
      subst hu e
      exact ⟨by omega, hv⟩
    · obtain ⟨h1, h2⟩ := h.val u j hu
      exact ⟨by omega, h2⟩
theorem PosI.lv {S : NS} {l : List Int} {i : Nat} {m : Nat → Option Nat} (h : PosI S l i m) (v : Nat) : lvO m v ≤ i := by
  unfold lvO
  cases hm : m v with
  | none => exact Nat.zero_le _
  | some j => have := (h.val v j hm).1; show j ≤ i; omega
/-- the list as numbers -/
def toNs (l : List Int) : List Nat := l.map Int.toNat
theorem PosI.count {S : NS} (hW : Wf S) {l : List Int} {m : Nat → Option Nat} (h : PosI S l l.length m) : cntS (fun v => (m v).isSome) 256 = cntS (fun v => decide (v ∈ toNs l)) 256 ∧ (∀ v ∈ toNs l, v < 256) ∧ ((toNs l).Nodup ↔ l.Nodup) ∧ (toNs l).length = l.length ∧ ∀ z ∈ l, inV S z = true := by
  have hall : ∀ z ∈ l, ∃ v : Nat, z = (v : Int) ∧ v < S.vars ∧ (m v).isSome = true := fun z hz => by
    obtain ⟨j, hj⟩ := List.getElem?_of_mem hz
    obtain ⟨v, h1, h2, h3⟩ := h.rng j (List.getElem?_eq_some_iff.1 hj).1
    rw [hj] at h1; injection h1 with h1
    exact ⟨v, h1, h2, h3⟩
  have h256 := hW.v256
  refine ⟨cntS_congr 256 fun v => ?_, fun v hv => ?_, ?_, by unfold toNs; rw [List.length_map], fun z hz => ?_⟩
  · rw [decide_eq_true_eq]
    unfold toNs
    rw [List.mem_map]
    constructor
    · intro hv
      obtain ⟨j, hj⟩ := Option.isSome_iff_exists.1 hv
      exact ⟨(v : Int), List.mem_of_getElem? (h.val v j hj).2, Int.toNat_natCast v⟩
    · rintro ⟨z, hz, rfl⟩
      obtain ⟨u, rfl, _, hu⟩ := hall z hz
      rw [Int.toNat_natCast]; exact hu
  · unfold toNs at hv
    obtain ⟨z, hz, rfl⟩ := List.mem_map.1 hv
    obtain ⟨u, rfl, hu, _⟩ := hall z hz
    rw [Int.toNat_natCast]; omega
  · unfold toNs List.Nodup
    rw [List.pairwise_map]
    constructor
    · intro hp
      exact hp.imp fun hne e => hne (by rw [e])
    · intro hp
      refine hp.imp_of_mem fun {a b} ha hb hne e => hne ?_
      obtain ⟨u, rfl, _, _⟩ := hall a ha
      obtain ⟨x, rfl, _, _⟩ := hall b hb
      rw [Int.toNat_natCast, Int.toNat_natCast] at e
      rw [e]
  · obtain ⟨u, rfl, hu, _⟩ := hall z hz
    rw [inV_iff]; omega
/-- each variable's place among the sorted ones -/
def PosOf (l : List Int) (m : Nat → Option Nat) : Prop := ∀ v j : Nat, m v = some j ↔ l[j]? = some (v : Int)
theorem PosI.of {S : NS} {l : List Int} {m : Nat → Option Nat} (h : PosI S l l.length m) (hn : l.Nodup) : PosOf l m := fun v j => by
  constructor
  · intro hm; exact (h.val v j hm).2
  · intro hj
    obtain ⟨u, h1, _, h3⟩ := h.rng j (List.getElem?_eq_some_iff.1 hj).1
    rw [hj] at h1; injection h1 with h1
    obtain rfl : v = u := by omega
    obtain ⟨i, hi⟩ := Option.isSome_iff_exists.1 h3
    rw [hi]
    have hi2 := (h.val v i hi).2
    obtain ⟨a1, a2⟩ := List.getElem?_eq_some_iff.1 hi2
    obtain ⟨b1, b2⟩ := List.getElem?_eq_some_iff.1 hj
    have hij : i = j := by
      rcases Nat.lt_trichotomy i j with hlt | he | hgt
      · exact absurd (a2.trans b2.symm) (List.pairwise_iff_getElem.1 hn i j a1 b1 hlt)
      · exact he
      · exact absurd (b2.trans a2.symm) (List.pairwise_iff_getElem.1 hn j i b1 a1 hgt)
    rw [hij]
theorem PosOf.mem {l : List Int} {m : Nat → Option Nat} (h : PosOf l m) (v : Nat) : (m v).isSome = true ↔ (v : Int) ∈ l := by
  rw [Option.isSome_iff_exists, List.mem_iff_getElem?]
  constructor
  · rintro ⟨j, hj⟩; exact ⟨j, (h v j).1 hj⟩
  · rintro ⟨j, hj⟩; exact ⟨j, (h v j).2 hj⟩
theorem cnt_pos {S : NS} (hW : Wf S) : 0 < NP.cnt S.l := by
  unfold NP.cnt
  refine List.countP_pos_iff.2 ⟨nd S.l 0, List.mem_of_getElem? (nd_lt (by have := hW.two; omega)), hW.is0⟩
/-- why a node can not be counted with variables -/
def askAll (S : NS) (k : Nat) (zs : List Int) : Prop := ∀ v ∈ asksL S k, (v : Int) ∈ zs
open Classical in
noncomputable def withE (S : NS) (k : Int) (zs : List Int) : Int := if ¬ okV S zs then 1 else if isK S.l k = false then 3 else if askAll S k.toNat zs then 0 else 1
theorem withE_no {S : NS} {k : Int} {zs : List Int} (h : ¬ okV S zs) : withE S k zs = 1 := by unfold withE; rw [if_pos h]
theorem withE_none {S : NS} {k : Int} {zs : List Int} (h : okV S zs) (hk : isK S.l k = false) : withE S k zs = 3 := by unfold withE; rw [if_neg (fun hn => hn h), if_pos hk]
theorem withE_ok {S : NS} {k : Int} {zs : List Int} (h : okV S zs) (hk : isK S.l k = true) (ha : askAll S k.toNat zs) : withE S k zs = 0 := by unfold withE; rw [if_neg (fun hn => hn h), if_neg (by rw [hk]; decide), if_pos ha]
theorem withE_ask {S : NS} {k : Int} {zs : List Int} (h : okV S zs) (hk : isK S.l k = true) (ha : ¬ askAll S k.toNat zs) : withE S k zs = 1 := by unfold withE; rw [if_neg (fun hn => hn h), if_neg (by rw [hk]; decide), if_neg ha]
def WithPost (S : NS) (k : Int) (zs : List Int) (w : World) (e : Ending) (w' : World) : Prop :=
  Below w.heap.size w w' ∧ ((withE S k zs ≠ 0 ∧ e = .returned (.tuple #[.map none, .int .i64 (withE S k zs)])) ∨
    (withE S k zs = 0 ∧ ∃ am m, e = .returned (.tuple #[.map (some am), .int .i64 0]) ∧ w.heap.size ≤ am ∧ IMap w' am 256 m ∧ PosOf (srt zs) m ∧ ∀ v, lvO m v ≤ zs.length))
set_option maxRecDepth 100000 in
set_option maxHeartbeats 6400000 in
theorem within_ok (w : World) (B p : Nat) (S : NS) (h : Sto w B p S) (k : Int) (a : Option Addr) (zs : List Int) (c : Nat) (hl : zs.length ≤ 1000) (hc : Cells w a (zV zs)) (hwf : ∀ z ∈ zs, (Lit.int .i64 z).wf = true) :
    Calls Tryz.prog 122 #[.pointer (some ⟨p, 0, none⟩), .int .i64 k, .slice a zs.length c] w (WithPost S k zs w) := by
  have hmk := @run_makeMap Tryz.prog
  have HS := Lib.hid h
  have HW := Lib.hid h.wf
  have hcn : ((NP.cnt S.l : Int) == 0) = false := by
    rw [beq_eq_false_iff_ne]
    have := cnt_pos h.wf
    omega
  have HLN := Lib.hid (nlen_ok w B p S h)
  have HSV := Lib.hid (sorted_vals w a c zs (by omega) hc)
  have HC := Lib.hid hc
  obtain ⟨N, hN⟩ : ∃ N, zs.length = N := ⟨_, rfl⟩
  rw [hN] at HSV hl ⊢
  have HN := Lib.hid hN; have HWF := Lib.hid hwf
  clear h hc hN hwf
  go_enter Tryz.func122, Tryz.ntmps122
  go_wp2_with fail
  refine HLN.out.mono ?_
  rintro e w0 ⟨rfl, rfl⟩
  go_wp2_with fail
  refine (values_ok a N c w).mono ?_
  rintro e w0 ⟨rfl, rfl⟩
  go_wp2_with fail
  refine HSV.out.mono ?_
  rintro e w1 ⟨v, rfl, hrow, hb1⟩
  have hsl : (srt zs).length = N := by rw [srt_len, HN.out]
  change w1.ownsRow w.heap.size _ 1 v N (zV (srt zs)) at hrow
  obtain ⟨oa, oc, rfl, _, _, hoc⟩ := Cells.of_own hrow
  obtain ⟨L, hL⟩ : ∃ L, srt zs = L := ⟨_, rfl⟩
  rw [hL] at hoc hsl
  have HOC := Lib.hid hoc; have HB1 := Lib.hid hb1; have HL := Lib.hid hL; have HSL := Lib.hid hsl
  clear hrow hb1 hoc hL hsl hcn
  obtain ⟨am, ham⟩ : ∃ am, am = w1.heap.size := ⟨_, rfl⟩
  obtain ⟨w2, hw2⟩ : ∃ w2, w2 = w1.alloc (.map #[] 0) := ⟨_, rfl⟩
  have hb2 : Below w1.heap.size w1 w2 := by rw [hw2]; exact (Below.refl _ _).alloc (Nat.le_refl _) _
  have HM0 : Hid (IMap w2 am 256 (fun _ => none)) := Lib.hid (by rw [hw2, ham]; exact IMap.new _ _)
  have HAM := Lib.hid ham; have HW2 := Lib.hid hw2; have HB2 := Lib.hid hb2
  have hamw : w1.heap.size ≤ am := by omega
  clear ham hw2 hb2
  go_upto_region 5 with (fail)
  rw [← HW2.out, ← HAM.out]
  go_wp2_with fail
  go_loopg [27] N (fun mm x wr => ∃ (i : Nat) (m : Nat → Option Nat), mm + i = N ∧ x = .int .i64 (i : Int) ∧ Below w1.heap.size w1 wr ∧ IMap wr am 256 m ∧ PosI S L i m)
  case atStart => exact ⟨0, _, by omega, rfl, HB2.out, HM0.out, PosI.start S L⟩
  case round =>
    obtain ⟨i, m, hm2, rfl, hb3, hmap, hpos⟩ := hrel
    have HMM := Lib.hid hm2; have HB3 := Lib.hid hb3; have HMP := Lib.hid hmap; have HPOS := Lib.hid hpos
    have HB03 := Lib.hid (HB1.out.trans (hb3.mono HB1.out.size))
    have hcM : cntS (fun v => (m v).isSome) 256 < maxLen := by have := cntS_le (fun v => (m v).isSome) 256; unfold maxLen; omega
    have HCM := Lib.hid hcM
    clear hm2 hb3 hmap hpos hcM
    by_cases hi : i < N
    · obtain ⟨z, hz⟩ : ∃ z, L[i]? = some z := ⟨_, List.getElem?_eq_getElem (by rw [HSL.out]; exact hi)⟩
      obtain ⟨b7, o7, rfl, hl7, t7⟩ := (HOC.out.below HB3.out).at_ (zV_at hz)
      have hzm : z ∈ zs := by rw [← srt_mem, HL.out]; exact List.mem_of_getElem? hz
      have HKZ : Hid (keyOf Tryz.prog 3 (.int .i64 z) = some (.int .i64 z)) := Lib.hid (Maps.keyOf_int_mk Tryz.underlying3 (HWF.out z hzm))
      have HZ := Lib.hid hz; have HZM := Lib.hid hzm
      clear hz hzm
      by_cases hz0 : z < 0
      · have d1 : decide (z < 0) = true := decide_eq_true hz0
        obtain ⟨n', hn'⟩ : ∃ n', (if (intM m (.int .i64 z)).isSome then cntS (fun v => (m v).isSome) 256 else cntS (fun v => (m v).isSome) 256 + 1) = n' := ⟨_, rfl⟩
        have HNX := Lib.hid hn'
        clear hn'
        have HNO : Hid (withE S k zs = 1) := Lib.hid (withE_no fun hok => by have := inV_iff.1 (hok.1 z HZM.out); omega)
        go_wp2_with (at_mapUpdate; refine wpList_msetn rfl (.tmp 32) (.tmp 33) (.tmp 34) 147 rfl 3 (Maps.int_keyed Tryz.underlying3) Tryz.underlying147 rfl HMP.out HCM.out _ (.int .i64 (i : Int)) _ rfl rfl HKZ.out _ HNX.out ?_)
        intro w3 hm3 hg3
        have HB4 := Lib.hid (HB03.out.grown hg3 HB03.out.size (fun j e => by injection e with e; have := HB1.out.size; omega))
        clear hm3 hg3 t7
        go_wp2_with fail
        go_ret2
        exact ⟨HB4.out, .inl ⟨by rw [HNO.out]; decide, by rw [HNO.out]; rfl⟩⟩
      obtain ⟨v, rfl⟩ : ∃ v : Nat, z = (v : Int) := ⟨z.toNat, by omega⟩
      have d1 : decide ((v : Int) < 0) = false := decide_eq_false hz0
      obtain ⟨V, hV⟩ : ∃ V, S.vars = V := ⟨_, rfl⟩
      have HV := Lib.hid hV
      clear hV hz0
      by_cases hvV : V ≤ v
      · have d2 : decide ((V : Int) ≤ (v : Int)) = true := decide_eq_true (by omega)
        have d2' : decide (V ≤ v) = true := decide_eq_true hvV
        obtain ⟨n', hn'⟩ : ∃ n', (if (intM m (.int .i64 (v : Int))).isSome then cntS (fun v => (m v).isSome) 256 else cntS (fun v => (m v).isSome) 256 + 1) = n' := ⟨_, rfl⟩
        have HNX := Lib.hid hn'
        clear hn'
        have HNO : Hid (withE S k zs = 1) := Lib.hid (withE_no fun hok => by have := inV_iff.1 (hok.1 _ HZM.out); rw [HV.out] at this; omega)
        go_wp2_with (at_mapUpdate; refine wpList_msetn rfl (.tmp 32) (.tmp 33) (.tmp 34) 147 rfl 3 (Maps.int_keyed Tryz.underlying3) Tryz.underlying147 rfl HMP.out HCM.out _ (.int .i64 (i : Int)) _ rfl rfl HKZ.out _ HNX.out ?_)
        intro w3 hm3 hg3
        have HB4 := Lib.hid (HB03.out.grown hg3 HB03.out.size (fun j e => by injection e with e; have := HB1.out.size; omega))
        have HVR := Lib.hid (nvars_ok w3 B p S (HS.out.below HB4.out))
        rw [HV.out] at HVR
        clear hm3 hg3 t7
        go_wp2_with fail
        refine HVR.out.mono ?_
        rintro e w4 ⟨rfl, rfl⟩
        go_wp2_with fail
        go_ret2
        exact ⟨HB4.out, .inl ⟨by rw [HNO.out]; decide, by rw [HNO.out]; rfl⟩⟩
      · have d2 : decide ((V : Int) ≤ (v : Int)) = false := decide_eq_false (by omega)
        have d2' : decide (V ≤ v) = false := decide_eq_false hvV
        have HCU := Lib.hid (cnt_upd (n := i) m (show v < 256 by have := HW.out.v256; rw [HV.out] at this; omega))
        have HPN := Lib.hid (HPOS.out.next HZ.out (by rw [HV.out]; omega))
        go_wp2_with (at_mapUpdate; refine wpList_msetn rfl (.tmp 32) (.tmp 33) (.tmp 34) 147 rfl 3 (Maps.int_keyed Tryz.underlying3) Tryz.underlying147 rfl HMP.out HCM.out _ (.int .i64 (i : Int)) _ rfl rfl HKZ.out _ HCU.out ?_)
        rw [intM_set]
        intro w3 hm3 hg3
        have HM3 := Lib.hid (show IMap w3 am 256 (updM m v i) from hm3)
        have HB4 := Lib.hid (HB3.out.grown hg3 HB3.out.size (fun j e => by injection e with e; omega))
        have HVR := Lib.hid (nvars_ok w3 B p S (HS.out.below (HB1.out.trans (HB4.out.mono HB1.out.size))))
        rw [HV.out] at HVR
        clear hm3 hg3 t7
        go_wp2_with fail
        refine HVR.out.mono ?_
        rintro e w4 ⟨rfl, rfl⟩
        go_wp2_with fail
        go_roundg (N - (i + 1))
        case measure => have := HMM.out; omega
        case rel => exact ⟨i + 1, _, by have := HMM.out; omega, by go_num, HB4.out, HM3.out, HPN.out⟩
    · have hiN : i = N := by have := HMM.out; omega
      subst hiN
      have HPF : Hid (PosI S L L.length m) := Lib.hid (by rw [HSL.out]; exact HPOS.out)
      obtain ⟨q1, q2, q3, q4, q5⟩ := HPF.out.count HW.out
      obtain ⟨q6, q7⟩ := cnt_list (toNs L) 256 q2
      rw [← q1, q4, HSL.out] at q6 q7
      rw [q3] at q7
      have HND : Hid (L.Nodup ↔ zs.Nodup) := Lib.hid (by rw [← HL.out]; exact (srt_perm zs).nodup_iff)
      have HIN : Hid (∀ z ∈ zs, inV S z = true) := Lib.hid (fun z hz => q5 z (by rw [← HL.out]; exact srt_mem.2 hz))
      obtain ⟨cn, hcn⟩ : ∃ cn, cntS (fun v => (m v).isSome) 256 = cn := ⟨_, rfl⟩
      rw [hcn] at q6 q7
      have HMP2 : Hid (MapAt wr Tryz.prog 3 am cn (intM m)) := Lib.hid (by rw [← hcn]; exact HMP.out)
      have HQ7 := Lib.hid q7
      clear q1 q2 q3 q4 q5 q7 hcn
      by_cases hnd : cn = i
      · have e1 : ((cn : Int) != (i : Int)) = false := by rw [bne_eq_false_iff_eq]; omega
        have e1' : (cn != i) = false := by rw [bne_eq_false_iff_eq]; exact hnd
        have HNOD := Lib.hid (HQ7.out.1 hnd)
        have HOKV : Hid (okV S zs) := Lib.hid ⟨HIN.out, HND.out.1 HNOD.out⟩
        have HPO : Hid (PosOf (srt zs) m) := Lib.hid (by rw [HL.out]; exact HPF.out.of HNOD.out)
        have HLVV : Hid (∀ v, lvO m v ≤ zs.length) := Lib.hid (fun v => by rw [HN.out]; exact HPOS.out.lv v)
        have HAS := Lib.hid (asks_ok wr B p S (HS.out.below HB03.out) k)
        clear hnd
        go_wp2_with (refine wpList_mlen rfl (.tmp 44) 147 rfl 3 Tryz.underlying147 rfl HMP2.out ?_)
        refine HAS.out.mono ?_
        rintro e w4 ⟨hb4, h⟩
        have HB4 := Lib.hid (HB03.out.trans (hb4.mono HB03.out.size))
        have HM4 : Hid (IMap w4 am 256 m) := Lib.hid (MapAt.below HMP.out hb4)
        rcases h with ⟨hk, rfl⟩ | ⟨hk, y, rfl, hrow⟩
        · have HNO : Hid (withE S k zs = 3) := Lib.hid (withE_none HOKV.out hk)
          clear hk hb4
          go_wp2_with fail
          go_ret2
          exact ⟨HB4.out, .inl ⟨by rw [HNO.out]; decide, by rw [HNO.out]; rfl⟩⟩
        · have HK := Lib.hid hk
          obtain ⟨ya, yc, rfl, _, _, hyc⟩ := Cells.of_own hrow
          obtain ⟨AL, hAL⟩ : ∃ AL, asksL S k.toNat = AL := ⟨_, rfl⟩
          have hALl : AL.length ≤ 256 := by
            rw [← hAL]; unfold asksL
            have := List.length_filter_le (askB S.l k.toNat) (List.range S.vars)
            rw [List.length_range] at this
            have := HW.out.v256; omega
          have hALv : ∀ v ∈ AL, v < 256 := fun v hv => by
            rw [← hAL] at hv; unfold asksL at hv
            have := List.mem_range.1 (List.mem_filter.1 hv).1
            have := HW.out.v256; omega
          rw [hAL] at hyc
          obtain ⟨N2, hN2⟩ : ∃ N2, AL.length = N2 := ⟨_, rfl⟩
          rw [hAL, hN2]
          rw [hN2] at hALl
          have HYC := Lib.hid hyc; have HAL := Lib.hid hAL; have HN2 := Lib.hid hN2; have HAV := Lib.hid hALv
          have hamw0 : w.heap.size ≤ am := by have := HB1.out.size; omega
          clear hk hb4 hrow hyc hAL hN2 hALv
          go_wp2_with fail
          go_loopg [60] N2 (fun mm x wr2 => ∃ j : Nat, mm + j = N2 ∧ x = .int .i64 (j : Int) ∧ w4 = wr2 ∧ ∀ v ∈ AL.take j, (v : Int) ∈ zs)
          case atStart => exact ⟨0, by omega, rfl, rfl, fun v hv => by simp at hv⟩
          case round =>
            obtain ⟨j, hm2, rfl, rfl, hall⟩ := hrel
            have HMM2 := Lib.hid hm2; have HALL := Lib.hid hall
            clear hm2 hall
            by_cases hj : j < N2
            · obtain ⟨v, hv⟩ : ∃ v, AL[j]? = some v := ⟨_, List.getElem?_eq_getElem (by rw [HN2.out]; exact hj)⟩
              obtain ⟨b8, o8, rfl, hl8, t8⟩ := HYC.out.at_ (zV_at (show (nZ AL)[j]? = some (v : Int) by unfold nZ; rw [List.getElem?_map, hv]; rfl))
              have HKV := Lib.hid (keyI v (by have := HAV.out v (List.mem_of_getElem? hv); omega))
              have HV := Lib.hid hv
              clear hv
              cases hmv : (m v).isSome with
              | true =>
                have his : (intM m (.int .i64 (v : Int))).isSome = true := by rw [intM_at]; cases h : m v with | none => rw [h] at hmv; cases hmv | some x => rfl
                have HIS := Lib.hid his
                have HIN2 : Hid ((v : Int) ∈ zs) := Lib.hid (srt_mem.1 ((HPO.out.mem v).1 hmv))
                clear his hmv
                go_wp2_with (at_lookup; refine wpList_mlook_ok rfl (.tmp 65) (.tmp 66) 147 rfl 3 (Maps.int_keyed Tryz.underlying3) Tryz.underlying147 (zeroI _) rfl HM4.out _ _ rfl HKV.out ?_; rw [at_lv, HIS.out])
                go_roundg (N2 - (j + 1))
                case measure => have := HMM2.out; omega
                case rel =>
                  refine ⟨j + 1, by have := HMM2.out; omega, by go_num, rfl, fun u hu => ?_⟩
                  rw [List.take_add_one, HV.out] at hu
                  rcases List.mem_append.1 hu with hu | hu
                  · exact HALL.out u hu
                  · have : u = v := by simpa using hu
                    rw [this]; exact HIN2.out
              | false =>
                have his : (intM m (.int .i64 (v : Int))).isSome = false := by rw [intM_at]; cases h : m v with | none => rfl | some x => rw [h] at hmv; cases hmv
                have HIS := Lib.hid his
                have HNO : Hid (withE S k zs = 1) := Lib.hid (withE_ask HOKV.out HK.out fun ha => by
                  have h1 := ha v (by rw [HAL.out]; exact List.mem_of_getElem? HV.out)
                  have h2 := (HPO.out.mem v).2 (srt_mem.2 h1)
                  rw [hmv] at h2; cases h2)
                clear his hmv
                go_wp2_with (at_lookup; refine wpList_mlook_ok rfl (.tmp 65) (.tmp 66) 147 rfl 3 (Maps.int_keyed Tryz.underlying3) Tryz.underlying147 (zeroI _) rfl HM4.out _ _ rfl HKV.out ?_; rw [at_lv, HIS.out])
                go_ret2
                exact ⟨HB4.out, .inl ⟨by rw [HNO.out]; decide, by rw [HNO.out]; rfl⟩⟩
            · have HYES : Hid (withE S k zs = 0) := Lib.hid (withE_ok HOKV.out HK.out fun v hv => HALL.out v (by
                rw [HAL.out] at hv
                rw [List.take_of_length_le (by rw [HN2.out]; have := HMM2.out; omega)]; exact hv))
              go_wp2_with fail
              go_ret2
              exact ⟨HB4.out, .inr ⟨HYES.out, am, m, rfl, hamw0, HM4.out, HPO.out, HLVV.out⟩⟩
      · have e1 : ((cn : Int) != (i : Int)) = true := by rw [bne_iff_ne]; omega
        have e1' : (cn != i) = true := by rw [bne_iff_ne]; exact hnd
        have HNO : Hid (withE S k zs = 1) := Lib.hid (withE_no fun hok => hnd (HQ7.out.2 (HND.out.2 hok.2)))
        clear hnd
        go_wp2_with (refine wpList_mlen rfl (.tmp 44) 147 rfl 3 Tryz.underlying147 rfl HMP2.out ?_)
        go_ret2
        exact ⟨HB03.out, .inl ⟨by rw [HNO.out]; decide, by rw [HNO.out]; rfl⟩⟩
end Go.Proofs.YtobhjkfkdkiigaaGreatDoor

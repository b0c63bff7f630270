/- The contract of comp.Members: the nodes of each component. -/
import Derived.Test.YtbancojknahdgaaCompL
namespace Go.Proofs.Ytbancojknahdgaa
open Go.RowKit CP
/-! ### plain -/
theorem foldl_max (l : List Int) : ∀ a : Int, a ≤ l.foldl max a ∧ (∀ x ∈ l, x ≤ l.foldl max a) ∧ (l.foldl max a = a ∨ l.foldl max a ∈ l) := by
  induction l with
  | nil => intro a; exact ⟨Int.le_refl _, fun x hx => (by cases hx), .inl rfl⟩
  | cons y l ih =>
    intro a
    obtain ⟨h1, h2, h3⟩ := ih (max a y)
    rw [List.foldl_cons]
    refine ⟨by omega, fun x hx => ?_, ?_⟩
    · rcases List.mem_cons.1 hx with rfl | hx
      · omega
      · exact h2 x hx
    · rcases h3 with h3 | h3
      · rcases Int.le_total a y with h | h
        · right; rw [h3, Int.max_eq_right h]; simp
        · left; rw [h3, Int.max_eq_left h]
      · right; exact List.mem_cons_of_mem _ h3
theorem foldl_min (l : List Int) : ∀ a : Int, l.foldl min a ≤ a ∧ (∀ x ∈ l, l.foldl min a ≤ x) ∧ (l.foldl min a = a ∨ l.foldl min a ∈ l) := by
  induction l with
  | nil => intro a; exact ⟨Int.le_refl _, fun x hx => (by cases hx), .inl rfl⟩
  | cons y l ih =>
    intro a
    obtain ⟨h1, h2, h3⟩ := ih (min a y)
    rw [List.foldl_cons]
    refine ⟨by omega, fun x hx => ?_, ?_⟩
    · rcases List.mem_cons.1 hx with rfl | hx
      · omega
      · exact h2 x hx
    · rcases h3 with h3 | h3
      · rcases Int.le_total a y with h | h
        · left; rw [h3, Int.min_eq_left h]
        · right; rw [h3, Int.min_eq_right h]; simp
      · right; exact List.mem_cons_of_mem _ h3
theorem maxOf_spec {l : List Int} (h : l ≠ []) : (∀ x ∈ l, x ≤ Lib.maxOf l) ∧ Lib.maxOf l ∈ l := by
  obtain ⟨y, m, rfl⟩ := List.exists_cons_of_ne_nil h
  obtain ⟨h1, h2, h3⟩ := foldl_max (y :: m) y
  refine ⟨h2, ?_⟩
  rcases h3 with h3 | h3
  · show List.foldl max y (y :: m) ∈ _; rw [h3]; simp
  · exact h3
theorem minOf_spec {l : List Int} (h : l ≠ []) : (∀ x ∈ l, Lib.minOf l ≤ x) ∧ Lib.minOf l ∈ l := by
  obtain ⟨y, m, rfl⟩ := List.exists_cons_of_ne_nil h
  obtain ⟨h1, h2, h3⟩ := foldl_min (y :: m) y
  refine ⟨h2, ?_⟩
  rcases h3 with h3 | h3
  · show List.foldl min y (y :: m) ∈ _; rw [h3]; simp
  · exact h3
/-- how many rows there are -/
def topN (cs : List Int) : Nat := if cs = [] then 0 else (Lib.maxOf cs + 1).toNat
/-- where c stands among the first i -/
def mrow (cs : List Int) (i c : Nat) : List Nat := (List.range i).filter fun k => cs.getD k (-1) == (c : Int)
def inZ (cs : List Int) : Bool := cs.all fun c => decide (0 ≤ c) && decide (c < cs.length)
def okM (cs : List Int) : Bool := inZ cs && (List.range (topN cs)).all fun c => !(mrow cs cs.length c).isEmpty
theorem mrow_succ {cs : List Int} {i x : Nat} (h : cs[i]? = some (x : Int)) : mrow cs (i + 1) = fup (mrow cs i) x (mrow cs i x ++ [i]) := by
  funext c
  unfold mrow
  rw [List.range_succ, List.filter_append]
  have hg : cs.getD i (-1) = (x : Int) := by rw [List.getD_eq_getElem?_getD, h]; rfl
  by_cases e : c = x
  · subst e
    rw [fup_same]
    congr 1
    simp only [List.filter_cons, List.filter_nil]
    rw [hg]; simp
  · rw [fup_ne _ _ e]
    have : ((x : Int) == (c : Int)) = false := by rw [beq_eq_false_iff_ne]; omega
    simp only [List.filter_cons, List.filter_nil]
    rw [hg, this]; simp
theorem mrow_len (cs : List Int) (i c : Nat) : (mrow cs i c).length ≤ i := by
  unfold mrow
  have := List.length_filter_le (fun k => cs.getD k (-1) == (c : Int)) (List.range i)
  simpa using this
theorem topN_lt {cs : List Int} (h : inZ cs = true) {c : Int} (hc : c ∈ cs) : 0 ≤ c ∧ c.toNat < topN cs ∧ topN cs ≤ cs.length := by
  have h1 := List.all_eq_true.1 h
  have hne : cs ≠ [] := List.ne_nil_of_mem hc
  obtain ⟨h2, h3⟩ := maxOf_spec hne
  have h4 := h1 _ h3
  have h5 := h1 _ hc
  have h6 := h2 _ hc
  unfold topN
  rw [if_neg hne]
  simp at h4 h5
  omega
/-! ### the rows without an element -/
theorem call_mm (args : Array Value) (w : World) : (callFunc 59 args).run Try.prog w = .ok (.enter 59 args) w := MuLone.run_callFunc_enter Try.func59 (by kernel_rfl) rfl args w
theorem mm_ok (w : World) (a : Option Addr) (n c : Nat) : Calls Try.prog 59 #[.slice a n c] w fun e w' => e = .returned (.bool (n == 0)) ∧ w = w' := by
  go_enter Try.func59, Try.ntmps59
  go_wp2_with fail
  go_ret
  refine ⟨?_, rfl⟩
  have e : ((n : Int) == 0) = (n == 0) := by
    refine Bool.eq_iff_iff.2 ?_
    rw [beq_iff_eq, beq_iff_eq]; omega
  rw [← e]; rfl
set_option maxRecDepth 100000 in
set_option maxHeartbeats 1600000 in
theorem empties_ok (w : World) (a : Option Addr) (N c : Nat) (g : Nat → List Nat) (sl : Nat → Value) (hN : N ≤ 1024) (hc : Cells w a ((List.range N).map sl)) (hs : ∀ i, i < N → ∃ ad cp, sl i = .slice ad (g i).length cp) :
    Calls Try.prog 70 #[.slice a N c, .func (.func 59) #[] #[]] w fun e w' => (∃ z : Int, e = .returned (.int .i64 z) ∧ (z < 0 ↔ ∀ i, i < N → g i ≠ [])) ∧ w = w' := by
  have HC := Lib.hid hc; have HS := Lib.hid hs
  have hcf := call_mm
  clear hc hs
  go_enter Try.func70, Try.ntmps70
  go_wp2_with fail
  go_loopg [5, 8] N (fun m y x wr => ∃ i : Nat, m + i = N ∧ x = .int .i64 (i : Int) ∧ (∀ j, j < i → g j ≠ []) ∧ w = wr)
  case atStart => exact ⟨0, rfl, rfl, fun j hj => absurd hj (Nat.not_lt_zero _), rfl⟩
  case round =>
    obtain ⟨i, hm, rfl, hno, rfl⟩ := hrel
    have HM := Lib.hid hm; have HNO := Lib.hid hno
    clear hm hno
    by_cases hi : i < N
    · obtain ⟨ad, cp, hsl⟩ := HS.out i hi
      obtain ⟨xb, xo, hxa, hxl, hxc⟩ := HC.out.at_ (k := i) (v := .slice ad (g i).length cp) (by rw [List.getElem?_map, List.getElem?_range hi, ← hsl]; rfl)
      subst hxa
      obtain ⟨L, hL⟩ : ∃ L, (g i).length = L := ⟨_, rfl⟩
      rw [hL] at hxc
      have HL := Lib.hid hL
      have HMM := Lib.hid (mm_ok w ad L cp)
      clear hL hsl
      by_cases h0 : L = 0
      · subst h0
        go_wp2_with fail
        refine HMM.out.mono ?_
        rintro e w' ⟨rfl, rfl⟩
        go_wp2_with fail
        go_ret
        refine ⟨⟨(i : Int), rfl, ?_⟩, rfl⟩
        constructor
        · intro h; omega
        · intro h; exact absurd (List.eq_nil_of_length_eq_zero HL.out) (h i hi)
      · have hb : (L == 0) = false := beq_eq_false_iff_ne.2 h0
        rw [hb] at HMM
        clear hb
        go_wp2_with fail
        refine HMM.out.mono ?_
        rintro e w' ⟨rfl, rfl⟩
        go_wp2_with fail
        go_roundg (N - (i + 1))
        case measure => have := HM.out; omega
        case rel => exact ⟨i + 1, by have := HM.out; omega, by go_num, fun j hj => by
          by_cases e : j = i
          · subst e; intro h; exact h0 (by rw [← HL.out, h]; rfl)
          · exact HNO.out j (by omega), rfl⟩
    · have hiN : i = N := by have := HM.out; omega
      subst hiN
      go_wp2_with fail
      go_ret
      exact ⟨⟨-1, rfl, by constructor; intro _; exact HNO.out; intro _; omega⟩, rfl⟩
set_option maxHeartbeats 800000 in
theorem contains_ok (w : World) (a : Option Addr) (N c : Nat) (g : Nat → List Nat) (sl : Nat → Value) (hN : N ≤ 1024) (hc : Cells w a ((List.range N).map sl)) (hs : ∀ i, i < N → ∃ ad cp, sl i = .slice ad (g i).length cp) :
    Calls Try.prog 58 #[.slice a N c, .func (.func 59) #[] #[]] w fun e w' => e = .returned (.bool (!(List.range N).all fun c => !(g c).isEmpty)) ∧ w = w' := by
  have HE := Lib.hid (empties_ok w a N c g sl hN hc hs)
  have hall : ((List.range N).all fun c => !(g c).isEmpty) = true ↔ ∀ i, i < N → g i ≠ [] := by
    rw [List.all_eq_true]
    constructor
    · intro h i hi; have := h i (List.mem_range.2 hi); simpa using this
    · intro h i hi; have := h i (List.mem_range.1 hi); simpa using this
  obtain ⟨bb, hbb⟩ : ∃ bb, ((List.range N).all fun c => !(g c).isEmpty) = bb := ⟨_, rfl⟩
  rw [hbb] at hall ⊢
  have HALL := Lib.hid hall
  clear hc hs hall hbb
  go_enter Try.func58, Try.ntmps58
  go_wp2_with fail
  refine HE.out.mono ?_
  rintro e w' ⟨⟨z, rfl, hz⟩, rfl⟩
  by_cases h0 : z < 0
  · have hb : bb = true := HALL.out.2 (hz.1 h0)
    subst hb
    have hd : decide (0 ≤ z) = false := decide_eq_false (by omega)
    clear hz
    go_wp2_with fail
    go_ret
    exact ⟨rfl, rfl⟩
  · have hb : bb = false := by
      cases bb with
      | false => rfl
      | true => exact absurd (hz.2 (HALL.out.1 rfl)) h0
    subst hb
    have hd : decide (0 ≤ z) = true := decide_eq_true (by omega)
    clear hz
    go_wp2_with fail
    go_ret
    exact ⟨rfl, rfl⟩
/-! ### comp.Members -/
def MemPost (w : World) (cs : List Int) (e : Ending) (w' : World) : Prop :=
  Below w.heap.size w w' ∧ ((okM cs = false ∧ e = .returned (.tuple #[.slice none 0 0, .int .i64 1])) ∨
    (okM cs = true ∧ ∃ a c, e = .returned (.tuple #[.slice a (topN cs) c, .int .i64 0]) ∧ RowsAt w' a ((List.range (topN cs)).map fun c => (mrow cs cs.length c).map fun k : Nat => (k : Int))))
theorem GrM.rows {w : World} {B ga n : Nat} {g : Nat → List Nat} {sl : Nat → Value} (h : GrM w B ga n g sl) (hl : ∀ a, a < n → (g a).length ≤ maxLen) : RowsAt w (some ⟨ga, 0, none⟩) ((List.range n).map fun c => (g c).map fun k : Nat => (k : Int)) := by
  refine ⟨(List.range n).map sl, ?_, fun i l hi => ?_⟩
  · have := h.blk.cells
    unfold tabV at this
    simpa using this
  · rw [List.getElem?_map] at hi
    have hin : i < n := by
      rcases Nat.lt_or_ge i n with h | h
      · exact h
      · rw [List.getElem?_eq_none (by simpa using h)] at hi; cases hi
    rw [List.getElem?_range hin] at hi
    injection hi with hi
    subst hi
    refine ⟨by rw [List.length_map]; exact hl i hin, ?_⟩
    obtain ⟨ad, cp, e, _, _, hc⟩ := Cells.of_own (h.row i hin)
    refine ⟨ad, cp, ?_, ?_⟩
    · rw [List.getElem?_map, List.getElem?_range hin, List.length_map, ← e]; rfl
    · rw [← iV_z]; exact hc
theorem rows2_info : (Try.prog.info? 25).map (fun i => (i.zero, i.size, i.bytes)) = some (some (.slice none 0 0), 1, 24) := rows_info
theorem Cells.getD {w : World} {b off : Nat} {zs : List Int} (h : Cells w (some ⟨b, off, none⟩) (zV zs)) : ∀ j, j < zs.length → w.cell? ⟨b, off + j, none⟩ = some (.int .i64 (zs.getD j 0)) := fun j hj => by
  obtain ⟨b2, o2, e, _, hc⟩ := h.at_ (k := j) (v := .int .i64 (zs.getD j 0)) (by unfold zV; rw [List.getElem?_map, List.getElem?_eq_getElem hj, List.getD_eq_getElem?_getD, List.getElem?_eq_getElem hj]; rfl)
  injection e with e
  injection e with e1 e2 _
  rw [e1, e2]; exact hc
theorem inZ_iff {cs : List Int} (h : cs ≠ []) : inZ cs = true ↔ 0 ≤ Lib.minOf cs ∧ Lib.maxOf cs < (cs.length : Int) := by
  obtain ⟨a1, a2⟩ := maxOf_spec h
  obtain ⟨b1, b2⟩ := minOf_spec h
  unfold inZ
  rw [List.all_eq_true]
  constructor
  · intro hh
    have h1 := hh _ a2
    have h2 := hh _ b2
    simp at h1 h2
    omega
  · intro hh x hx
    have h1 := a1 x hx
    have h2 := b1 x hx
    simp
    omega
set_option maxRecDepth 100000 in
set_option maxHeartbeats 6400000 in
theorem members_ok (w : World) (ca : Option Addr) (cs : List Int) (c : Nat) (hm : cs.length ≤ 1024) (hc : Cells w ca (zV cs)) :
    Calls Try.prog 33 #[.slice ca cs.length c] w (MemPost w cs) := by
  by_cases hne : cs = []
  · subst hne
    have HCO := Lib.hid (contains_ok w none 0 0 (fun _ => []) (fun _ => .slice none 0 0) (by omega) (Cells.nil _ _) (fun i hi => absurd hi (Nat.not_lt_zero _)))
    rw [show (!(List.range 0).all fun c => !(([] : List Nat)).isEmpty) = false from rfl] at HCO
    clear hc hm
    rw [show ([] : List Int).length = 0 from rfl]
    go_enter Try.func33, Try.ntmps33
    go_wp2_with fail
    go_loopg [30] 0 (fun m x wr => x = .int .i64 0 ∧ w = wr)
    case atStart => exact ⟨rfl, rfl⟩
    case round =>
      obtain ⟨rfl, rfl⟩ := hrel
      go_wp2_with fail
      refine HCO.out.mono ?_
      rintro e w' ⟨rfl, rfl⟩
      go_wp2_with fail
      go_ret2
      exact ⟨Below.refl _ _, .inr ⟨rfl, none, 0, rfl, [], Cells.nil _ _, fun i l hi => by cases hi⟩⟩
  · have hpos : 0 < cs.length := List.length_pos_iff.2 hne
    obtain ⟨b, off, hca, hbl, _⟩ := hc (by intro h; exact hne (by unfold zV at h; simpa using h))
    subst hca
    have hcd := hc.getD
    have HMAX := Lib.hid ((Try.slices_Max_int b off cs.length c cs w hpos (Nat.le_refl _) (by omega) hcd).mono fun e w' h => (⟨h.1, h.2.symm⟩ : e = _ ∧ w = w'))
    have HMIN := Lib.hid ((Try.slices_Min_int b off cs.length c cs w hpos (Nat.le_refl _) (by omega) hcd).mono fun e w' h => (⟨h.1, h.2.symm⟩ : e = _ ∧ w = w'))
    rw [List.take_length] at HMAX HMIN
    have hin := inZ_iff hne
    have htop : topN cs = (Lib.maxOf cs + 1).toNat := by unfold topN; rw [if_neg hne]
    have hmge : Lib.minOf cs ≤ Lib.maxOf cs := (minOf_spec hne).1 _ (maxOf_spec hne).2
    obtain ⟨mx, hmx⟩ : ∃ mx, Lib.maxOf cs = mx := ⟨_, rfl⟩
    obtain ⟨mn, hmn⟩ : ∃ mn, Lib.minOf cs = mn := ⟨_, rfl⟩
    obtain ⟨N, hN⟩ : ∃ N, cs.length = N := ⟨_, rfl⟩
    rw [hmx] at hin htop hmge HMAX
    rw [hmn] at hin hmge HMIN
    rw [hN] at hin hpos hm HMAX HMIN ⊢
    have HN := Lib.hid hN; have HIN := Lib.hid hin; have HTOP := Lib.hid htop; have HC := Lib.hid hc
    have no : ∀ w', Below w.heap.size w w' → okM cs = false → MemPost w cs (.returned (.tuple #[.slice none 0 0, .int .i64 1])) w' := fun w' hb h => ⟨hb, .inl ⟨h, rfl⟩⟩
    have NO := Lib.hid no
    clear no hin htop hc hcd hmx hmn hN hne
    by_cases h1 : mn < 0
    · have HB : Hid (okM cs = false) := Lib.hid (by
        unfold okM
        cases e : inZ cs with
        | false => rfl
        | true => have := (HIN.out.1 e).1; omega)
      go_enter Try.func33, Try.ntmps33
      go_wp2_with fail
      refine HMAX.out.mono ?_
      rintro e w' ⟨rfl, rfl⟩
      go_wp2_with fail
      refine HMIN.out.mono ?_
      rintro e w' ⟨rfl, rfl⟩
      go_wp2_with fail
      go_ret2
      exact NO.out _ (Below.refl _ _) HB.out
    by_cases h2 : (N : Int) ≤ mx
    · have HB : Hid (okM cs = false) := Lib.hid (by
        unfold okM
        cases e : inZ cs with
        | false => rfl
        | true => have := (HIN.out.1 e).2; omega)
      go_enter Try.func33, Try.ntmps33
      go_wp2_with fail
      refine HMAX.out.mono ?_
      rintro e w' ⟨rfl, rfl⟩
      go_wp2_with fail
      refine HMIN.out.mono ?_
      rintro e w' ⟨rfl, rfl⟩
      go_wp2_with fail
      go_ret2
      exact NO.out _ (Below.refl _ _) HB.out
    have HINZ : Hid (inZ cs = true) := Lib.hid (HIN.out.2 ⟨by omega, by omega⟩)
    obtain ⟨t, rfl⟩ : ∃ t : Nat, mx = (t : Int) := ⟨mx.toNat, by omega⟩
    obtain ⟨K, hK⟩ : ∃ K, t + 1 = K := ⟨_, rfl⟩
    have HK : Hid (topN cs = K) := Lib.hid (by rw [HTOP.out]; omega)
    have hKN : K ≤ N := by omega
    have hKi : (t : Int) + 1 = (K : Int) := by omega
    obtain ⟨i0, hi0, hz0, hz1, hz2⟩ := info_parts rows_info
    obtain ⟨j0, hj0, yz0, yz1, yz2⟩ := info_parts int_infoC
    have hmk := run_make_n (P := Try.prog) 42 25 i0 (.slice none 0 0) 1 24 Try.underlying42 hi0 hz0 hz1 hz2 .i64 .i64 K K (Nat.le_refl _) (by omega) (by omega)
    have e0 : madeCells (Value.slice none 0 0).cells (K * 1) = tabV K fun _ => .slice none 0 0 := made_rep K _
    rw [e0] at hmk
    have ht1 : t < 2048 := by omega
    have d1 : decide (mn < 0) = false := decide_eq_false h1
    have d2 : decide (N ≤ t) = false := decide_eq_false (by omega)
    have d3 : decide ((1024 : Int) < (N : Int)) = false := decide_eq_false (by omega)
    clear e0 hK hmge HIN HTOP h1 h2
    go_enter Try.func33, Try.ntmps33
    go_wp2_with fail
    refine HMAX.out.mono ?_
    rintro e w' ⟨rfl, rfl⟩
    go_wp2_with fail
    refine HMIN.out.mono ?_
    rintro e w' ⟨rfl, rfl⟩
    go_upto_region 9 with (fail)
    have HG0 := Lib.hid (GrM.made w K)
    clear hmk hKi ht1
    go_wp2_with fail
    go_loopg [30] N (fun m x wr => ∃ i sl, m + i = N ∧ x = .int .i64 (i : Int) ∧ GrM wr w.heap.size w.heap.size K (mrow cs i) sl ∧ Below w.heap.size w wr)
    case atStart =>
      refine ⟨0, fun _ => .slice none 0 0, rfl, rfl, ?_, (Below.refl _ _).alloc (Nat.le_refl _) _⟩
      have e : mrow cs 0 = fun _ => [] := by funext c; unfold mrow; simp
      rw [e]; exact HG0.out
    case round =>
      obtain ⟨i, sl, hm2, rfl, hg, hb⟩ := hrel
      have HM := Lib.hid hm2; have HG := Lib.hid hg; have HB := Lib.hid hb
      have hsz := hb.size
      clear hm2 hg hb HG0
      by_cases hi : i < N
      · obtain ⟨z, hz⟩ : ∃ z, cs[i]? = some z := ⟨_, List.getElem?_eq_getElem (by rw [HN.out]; exact hi)⟩
        obtain ⟨hz0, hz1', _⟩ := topN_lt HINZ.out (List.mem_of_getElem? hz)
        obtain ⟨x, rfl⟩ : ∃ x : Nat, z = (x : Int) := ⟨z.toNat, by omega⟩
        have hxK : x < K := by rw [← HK.out]; simpa using hz1'
        obtain ⟨b2, o2, e2, hbl2, hxc⟩ := (HC.out.below HB.out).at_ (zV_at hz)
        injection e2 with e2
        injection e2 with e2 e3 _
        subst e2 e3
        have HST := Lib.hid (mrow_succ hz)
        have q0 : wr.cell? ⟨w.heap.size, x, none⟩ = some (sl x) := (HG.out.blk.cell x).trans (tabV_get _ hxK)
        have ql := HG.out.blk.lt
        have hlen := mrow_len cs i x
        obtain ⟨na, hna⟩ : ∃ na, (mrow cs i x).length = na := ⟨_, rfl⟩
        have hrow := HG.out.row x hxK
        rw [hna] at hrow hlen
        have HROW := Lib.hid hrow; have HNA := Lib.hid hna
        clear hz hz0 hz1' hrow hna
        go_wp2_with (at_builtin; refine wpList_append_sep rfl (.tmp 40) (.tmp 42) 25 rfl w.heap.size 3 j0 (.int .i64 0) 1 8 Try.underlying25 hj0 yz0 yz1 yz2 rfl (by decide) (sl x) na _ rfl (HROW.out.alloc _) wr.heap.size 0 1 1 [.int .i64 (i : Int)] rfl rfl (lit_one _ _ _) (ones_int _) (by unfold maxLen; omega) (by omega) (by simp; omega) ?_)
        intro y7 w7 hown hg7 hsep
        obtain ⟨oa, oc, rfl⟩ := own_shape hown
        have hal := (Below.refl wr.heap.size wr).alloc (Nat.le_refl _) (.cells #[.int .i64 (i : Int)] 3)
        have hG7 := (HG.out.below hal).grow hxK (x := i) (v := .slice oa (na + 1) oc) (by rw [HNA.out]; exact hown) hg7 (by simpa using hsep)
        rw [← HST.out] at hG7
        have HG7 := Lib.hid hG7
        have hb7 := (HG.out.blk.alloc_ (.cells #[.int .i64 (i : Int)] 3)).grown hg7 (own_ne_blk HROW.out HG.out.blk (by decide))
        have f0 : w7.cell? ⟨w.heap.size, x, none⟩ = some (sl x) := (hb7.cell x).trans (tabV_get _ hxK)
        have ff := hb7.frozen x
        have fl := hb7.lt
        have HB7 : Hid (Below w.heap.size w (w7.setCell ⟨w.heap.size, x, none⟩ (.slice oa (na + 1) oc))) := Lib.hid (((HB.out.trans (hal.mono hsz)).grown hg7 (by simp; omega) (fun b hb => (HROW.out.lt b hb).1)).setCell (Nat.le_refl _) _)
        clear hown hg7 hsep hal hG7 hb7 HROW q0 ql
        go_wp2_with fail
        go_roundg (N - (i + 1))
        case measure => have := HM.out; omega
        case rel => exact ⟨i + 1, _, by have := HM.out; omega, by go_num, HG7.out, HB7.out⟩
      · have hiN : i = N := by have := HM.out; omega
        have HCO := Lib.hid (contains_ok wr (some ⟨w.heap.size, 0, none⟩) K K (mrow cs i) sl (by omega) (by have := HG.out.blk.cells; unfold tabV at this; simpa using this) (fun j hj => own_shape (HG.out.row j hj)))
        have hok : okM cs = ((List.range K).all fun c => !(mrow cs i c).isEmpty) := by unfold okM; rw [HINZ.out, HK.out, HN.out, hiN, Bool.true_and]
        obtain ⟨bb, hbb⟩ : ∃ bb, ((List.range K).all fun c => !(mrow cs i c).isEmpty) = bb := ⟨_, rfl⟩
        rw [hbb] at HCO hok
        have HOK := Lib.hid hok
        have HIN2 := Lib.hid hiN
        clear hok hbb hiN
        cases bb with
        | true =>
          go_wp2_with fail
          refine HCO.out.mono ?_
          rintro e w' ⟨rfl, rfl⟩
          go_wp2_with fail
          go_ret2
          refine ⟨HB.out, .inr ⟨HOK.out, some ⟨w.heap.size, 0, none⟩, K, by rw [HK.out]; rfl, ?_⟩⟩
          rw [HK.out, HN.out, ← HIN2.out]
          exact HG.out.rows fun a _ => by have h1 := mrow_len cs i a; have h2 := HIN2.out; unfold maxLen; omega
        | false =>
          go_wp2_with fail
          refine HCO.out.mono ?_
          rintro e w' ⟨rfl, rfl⟩
          go_wp2_with fail
          go_ret2
          exact NO.out _ HB.out HOK.out
end Go.Proofs.Ytbancojknahdgaa

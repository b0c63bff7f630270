/- The laws of layer 5: list, exists (sixteen answers for some values), and QuanExists. -/
import Derived.Test.YtffkehefkmdadaaQuanG
namespace Go.Proofs.Ytffkehefkmdadaa
open Go.RowKit HP NP
theorem exQ_peel {vs : Nat → Bool} {v : Nat} (hv : vs v = true) (g : (Nat → Bool) → Bool) (ρ : Nat → Bool) :
    exQ vs g ρ = exQ (fun i => if i = v then false else vs i) (fun ρ => g (upR ρ v false) || g (upR ρ v true)) ρ := by
  have up2 : ∀ (σ : Nat → Bool) (a b : Bool), upR (upR σ v a) v b = upR σ v b := fun σ a b => by funext i; unfold upR; split <;> rfl
  have ups : ∀ σ : Nat → Bool, upR σ v (σ v) = σ := fun σ => by funext i; unfold upR; split; rename_i e; rw [e]; rfl
  refine bool_iff ⟨fun h => ?_, fun h => ?_⟩
  · obtain ⟨σ, h1, h2⟩ := exQ_iff.1 h
    refine exQ_iff.2 ⟨upR σ v (ρ v), fun i hi => ?_, ?_⟩
    · show upR σ v (ρ v) i = ρ i
      unfold upR
      split
      · rename_i e; rw [e]
      · rename_i e
        have hi' : (if i = v then false else vs i) = false := hi
        rw [if_neg e] at hi'
        exact h1 i hi'
    · show (g (upR (upR σ v (ρ v)) v false) || g (upR (upR σ v (ρ v)) v true)) = true
      rw [up2, up2, Bool.or_eq_true]
      have e := ups σ
      cases hs : σ v with
      | false => rw [hs] at e; left; rw [e]; exact h2
      | true => rw [hs] at e; right; rw [e]; exact h2
  · obtain ⟨σ, h1, h2⟩ := exQ_iff.1 h
    have h2' : (g (upR σ v false) || g (upR σ v true)) = true := h2
    rw [Bool.or_eq_true] at h2'
    have key : ∀ b, g (upR σ v b) = true → exQ vs g ρ = true := fun b hb => exQ_iff.2 ⟨upR σ v b, fun i hi => by
      unfold upR
      have hne : i ≠ v := by rintro rfl; rw [hv] at hi; cases hi
      rw [if_neg hne]
      exact h1 i (by rw [if_neg hne]; exact hi), hb⟩
    rcases h2' with h2' | h2'
    · exact key _ h2'
    · exact key _ h2'
theorem exQ_none {vs : Nat → Bool} (h : ∀ i, vs i = false) (g : (Nat → Bool) → Bool) (ρ : Nat → Bool) : exQ vs g ρ = g ρ := by
  refine bool_iff ⟨fun hh => ?_, fun hh => exQ_iff.2 ⟨ρ, fun _ _ => rfl, hh⟩⟩
  obtain ⟨σ, h1, h2⟩ := exQ_iff.1 hh
  have : σ = ρ := funext fun i => h1 i (h i)
  rw [← this]; exact h2
/-- the sixteen answers for some value of v, if it is of the set -/
def exStep (X set v : Nat) : Nat := if set.testBit v then resN X v false ||| resN X v true else X
def exN (X set : Nat) : Nat → Nat
  | 0 => X
  | v + 1 => exStep (exN X set v) set v
theorem exStep_lt {X set v : Nat} (h : X < 65536) : exStep X set v < 65536 := by
  unfold exStep
  split
  · exact Nat.or_lt_two_pow (n := 16) (resN_lt X v false) (resN_lt X v true)
  · exact h
theorem exN_lt {X set : Nat} (h : X < 65536) : ∀ v, exN X set v < 65536
  | 0 => h
  | v + 1 => exStep_lt (exN_lt h v)
theorem exStep_tbl (X set v : Nat) (hv : v < 4) (ρ : Nat → Bool) : tbl (exStep X set v) ρ = if set.testBit v then (tbl X (upR ρ v false) || tbl X (upR ρ v true)) else tbl X ρ := by
  unfold exStep
  split
  · rw [← resN_tbl X v false hv, ← resN_tbl X v true hv]
    unfold tbl
    rw [Nat.testBit_or]
  · rfl
def setB4 (set : Nat) (i : Nat) : Bool := decide (i < 4) && set.testBit i
theorem exQ_tbl (X set : Nat) (ρ : Nat → Bool) : exQ (setB4 set) (tbl X) ρ = tbl (exN X set 4) ρ := by
  have step : ∀ v, v < 4 → exQ (fun i => decide (v ≤ i) && setB4 set i) (tbl (exN X set v)) ρ = exQ (fun i => decide (v + 1 ≤ i) && setB4 set i) (tbl (exN X set (v + 1))) ρ := fun v hv => by
    have eg : tbl (exN X set (v + 1)) = fun ρ => if set.testBit v then (tbl (exN X set v) (upR ρ v false) || tbl (exN X set v) (upR ρ v true)) else tbl (exN X set v) ρ := funext fun ρ => exStep_tbl _ set v hv ρ
    rw [eg]
    cases hs : set.testBit v with
    | true =>
      rw [exQ_peel (v := v) (by simp [setB4, hs, hv])]
      have ev : (fun i => if i = v then false else decide (v ≤ i) && setB4 set i) = fun i => decide (v + 1 ≤ i) && setB4 set i := by
        funext i
        by_cases e : i = v
        · subst e; rw [if_pos rfl, decide_eq_false (show ¬ i + 1 ≤ i by omega)]; rfl
        · rw [if_neg e]
          by_cases h2 : v ≤ i
          · rw [decide_eq_true h2, decide_eq_true (show v + 1 ≤ i by omega)]
          · rw [decide_eq_false h2, decide_eq_false (show ¬ v + 1 ≤ i by omega)]
      rw [ev]
      rfl
    | false =>
      have ev : (fun i => decide (v ≤ i) && setB4 set i) = fun i => decide (v + 1 ≤ i) && setB4 set i := by
        funext i
        by_cases e : i = v
        · subst e; simp [setB4, hs]
        · by_cases h2 : v ≤ i
          · rw [decide_eq_true h2, decide_eq_true (show v + 1 ≤ i by omega)]
          · rw [decide_eq_false h2, decide_eq_false (show ¬ v + 1 ≤ i by omega)]
      rw [ev]
      rfl
  have e0 : (fun i => decide (0 ≤ i) && setB4 set i) = setB4 set := by funext i; simp
  have h0 := step 0 (by decide)
  rw [e0] at h0
  show exQ (setB4 set) (tbl (exN X set 0)) ρ = _
  rw [h0, step 1 (by decide), step 2 (by decide), step 3 (by decide)]
  exact exQ_none (fun i => by
    unfold setB4
    by_cases h : i < 4
    · rw [decide_eq_false (show ¬ 3 + 1 ≤ i by omega)]; rfl
    · rw [decide_eq_false h]; simp) _ ρ
set_option maxRecDepth 100000 in
set_option maxHeartbeats 1600000 in
theorem exists_ok (w : World) (X set : Nat) (hX : X < 65536) :
    Calls Try.prog 43 #[.int .i64 (X : Int), .int .i64 (set : Int)] w fun e w' => e = .returned (.int .i64 (exN X set 4 : Int)) ∧ w = w' := by
  go_enter Try.func43, Try.ntmps43
  go_wp2_with fail
  go_loopg [0, 5] 4 (fun m y x wr => ∃ v : Nat, m + v = 4 ∧ y = .int .i64 (exN X set v : Int) ∧ x = .int .i64 (v : Int) ∧ w = wr)
  case atStart => exact ⟨0, rfl, rfl, rfl, rfl⟩
  case round =>
    obtain ⟨v, hm, rfl, rfl, rfl⟩ := hrel
    have HM := Lib.hid hm
    clear hm
    by_cases hv : v < 4
    · have hl := exN_lt (set := set) hX v
      obtain ⟨Y, hY⟩ : ∃ Y, Y = exN X set v := ⟨_, rfl⟩
      rw [← hY] at hl ⊢
      have HY := Lib.hid hY
      clear hY
      have hbit := bit_is set v
      have hor : bits .or .i64 (resN Y v false : Int) (resN Y v true : Int) = ((resN Y v false ||| resN Y v true : Nat) : Int) := i64_or _ _ (resN_lt _ _ _) (resN_lt _ _ _)
      have HOR := Lib.hid hor
      cases hs : set.testBit v with
      | true =>
        rw [hs] at hbit
        have HE : Hid (exN X set (v + 1) = resN Y v false ||| resN Y v true) := Lib.hid (by show exStep (exN X set v) set v = _; rw [← HY.out]; unfold exStep; rw [hs]; rfl)
        clear hs hor
        go_wp2_with fail
        refine (restricted_ok w Y v false hl hv).mono ?_
        rintro e w' ⟨rfl, rfl⟩
        go_wp2_with fail
        refine (restricted_ok w Y v true hl hv).mono ?_
        rintro e w' ⟨rfl, rfl⟩
        go_wp2_with fail
        go_roundg (4 - (v + 1))
        case measure => have := HM.out; omega
        case rel => exact ⟨v + 1, by have := HM.out; omega, by rw [HOR.out, HE.out], by go_num, rfl⟩
      | false =>
        rw [hs] at hbit
        have HE : Hid (exN X set (v + 1) = Y) := Lib.hid (by show exStep (exN X set v) set v = _; rw [← HY.out]; unfold exStep; rw [hs]; rfl)
        clear hs hor
        go_wp2_with fail
        go_roundg (4 - (v + 1))
        case measure => have := HM.out; omega
        case rel => exact ⟨v + 1, by have := HM.out; omega, by rw [HE.out], by go_num, rfl⟩
    · have hv4 : v = 4 := by have := HM.out; omega
      subst hv4
      go_wp2_with fail
      go_ret
      exact ⟨rfl, rfl⟩
/-- the variables of a set below v, as ints -/
def lst (set v : Nat) : List Int := ((List.range v).filter fun i => set.testBit i).map fun i : Nat => (i : Int)
theorem lst_succ (set v : Nat) : lst set (v + 1) = lst set v ++ (if set.testBit v then [(v : Int)] else []) := by
  unfold lst
  rw [List.range_succ, List.filter_append, List.map_append]
  congr 1
  cases h : set.testBit v <;> simp [h]
theorem lst_len (set v : Nat) : (lst set v).length ≤ v := by
  unfold lst
  rw [List.length_map]
  exact Nat.le_trans (List.length_filter_le _ _) (by simp)
theorem lst_mem (set v : Nat) (i : Nat) : ((i : Int) ∈ lst set v) ↔ i < v ∧ set.testBit i = true := by
  unfold lst
  simp only [List.mem_map, List.mem_filter, List.mem_range]
  constructor
  · rintro ⟨a, ⟨h1, h2⟩, h3⟩
    obtain rfl : a = i := by omega
    exact ⟨h1, h2⟩
  · rintro ⟨h1, h2⟩
    exact ⟨i, ⟨h1, h2⟩, rfl⟩
theorem lst_lt {set v : Nat} {z : Int} (h : z ∈ lst set v) : 0 ≤ z ∧ z < v := by
  unfold lst at h
  simp [List.mem_map, List.mem_filter] at h
  obtain ⟨i, ⟨h1, _⟩, rfl⟩ := h
  omega
theorem one_int (z : Int) : ∀ u ∈ [Value.int .i64 z], u.oneCell' = true := by intro u hu; simp at hu; subst hu; rfl
set_option maxRecDepth 100000 in
set_option maxHeartbeats 1600000 in
theorem list_ok (w : World) (set : Nat) :
    Calls Try.prog 42 #[.int .i64 (set : Int)] w fun e w' => ∃ a c, e = .returned (.slice a (lst set 4).length c) ∧ Cells w' a ((lst set 4).map fun k => .int .i64 k) ∧ Below w.heap.size w w' ∧ (lst set 4).length ≤ c ∧ TB w' a 3 := by
  obtain ⟨j0, hj0, yz0, yz1, yz2⟩ := info_parts int_info
  go_enter Try.func42, Try.ntmps42
  go_wp2_with fail
  go_loopg [3, 4] 4 (fun m y x wr => ∃ v : Nat, m + v = 4 ∧ x = .int .i64 (v : Int) ∧ wr.ownsRow w.heap.size 3 1 y (lst set v).length ((lst set v).map fun k => .int .i64 k) ∧ Below w.heap.size w wr)
  case atStart => exact ⟨0, rfl, rfl, World.ownsRow_nil _ _ _ _, Below.refl _ _⟩
  case round =>
    rename_i y _
    obtain ⟨v, hm, rfl, hown, hb⟩ := hrel
    have HOWN := Lib.hid hown
    have HM := Lib.hid hm; have HB := Lib.hid hb
    have hsz := hb.size
    clear hown hm hb
    by_cases hv : v < 4
    · have hbit := bit_is set v
      have hln := lst_len set v
      obtain ⟨n, hn⟩ : ∃ n, (lst set v).length = n := ⟨_, rfl⟩
      rw [hn] at HOWN hln
      have HN := Lib.hid hn
      clear hn
      cases hs : set.testBit v with
      | true =>
        rw [hs] at hbit
        have HL : Hid (lst set (v + 1) = lst set v ++ [(v : Int)]) := Lib.hid (by rw [lst_succ, hs]; rfl)
        clear hs
        go_wp2_with (at_builtin; refine wpList_append_src rfl (.tmp 14) (.tmp 16) 46 rfl w.heap.size 3 j0 (.int .i64 0) 1 8 Try.underlying46 hj0 yz0 yz1 yz2 rfl (by decide) _ n _ rfl (HOWN.out.alloc _) (some ⟨wr.heap.size, 0, none⟩) 1 1 [.int .i64 (v : Int)] rfl rfl (Cells.lit _ _ _) (one_int _) (by unfold maxLen; omega) (by omega) (by simp; omega) ?_)
        intro v' w6 hown hg _
        have HO6 := Lib.hid hown
        have HB6 := Lib.hid ((HB.out.alloc hsz (.cells #[.int .i64 (v : Int)] 3)).grown hg (by simp; omega) (fun j hj => (HOWN.out.lt j hj).1))
        clear hown hg
        go_wp2_with fail
        go_roundg (4 - (v + 1))
        case measure => have := HM.out; omega
        case rel => exact ⟨v + 1, by have := HM.out; omega, by go_num, by have := HO6.out; rw [HL.out]; simpa [HN.out] using this, HB6.out⟩
      | false =>
        rw [hs] at hbit
        have HL : Hid (lst set (v + 1) = lst set v) := Lib.hid (by rw [lst_succ, hs]; simp)
        clear hs
        go_wp2_with fail
        go_roundg (4 - (v + 1))
        case measure => have := HM.out; omega
        case rel => exact ⟨v + 1, by have := HM.out; omega, by go_num, by rw [HL.out, HN.out]; exact HOWN.out, HB.out⟩
    · have hv4 : v = 4 := by have := HM.out; omega
      subst hv4
      obtain ⟨oa, oc, ho1, ho2, ho3, ho4⟩ := Cells.of_own HOWN.out
      subst ho1
      have HC := Lib.hid ho4
      have HTB := Lib.hid (own_tbV HOWN.out)
      clear ho4 ho3
      go_wp2_with fail
      go_ret
      exact ⟨oa, oc, rfl, HC.out, HB.out, ho2, HTB.out⟩
theorem exT_list {S : NS} {x X set : Nat} (hd : Den S x (tbl X)) {vs : List Int} (hvs : ∀ z, z ∈ vs ↔ z ∈ lst set 4) (ρ : Nat → Bool) : exT S (inS (fun z => vs.reverse.contains z)) x ρ = tbl (exN X set 4) ρ := by
  have e1 : inS (fun z => vs.reverse.contains z) = setB4 set := by
    funext i
    unfold inS setB4
    have h := (hvs (i : Int)).trans (lst_mem set 4 i)
    by_cases hc : i < 4 ∧ set.testBit i = true
    · rw [decide_eq_true hc.1, hc.2]
      have := h.2 hc
      simpa using this
    · have hn : ¬ (i : Int) ∈ vs := fun hh => hc (h.1 hh)
      have e2 : vs.reverse.contains (i : Int) = false := by simpa using hn
      show vs.reverse.contains (i : Int) = _
      rw [e2]
      by_cases h4 : i < 4
      · rw [decide_eq_true h4]
        cases hb : set.testBit i with
        | false => rfl
        | true => exact absurd ⟨h4, hb⟩ hc
      · rw [decide_eq_false h4]; rfl
  unfold exT
  rw [e1, exQ_congr (g' := tbl X) (fun ρ => hd.says ρ)]
  exact exQ_tbl X set ρ
theorem lst_vok {S : NS} (h4 : S.vars = 4) {set : Nat} {vs : List Int} (hvs : ∀ z, z ∈ vs → z ∈ lst set 4) : vs.all (vOk S) = true := by
  rw [List.all_eq_true]
  intro z hz
  have := lst_lt (hvs z hz)
  unfold vOk
  rw [h4, decide_eq_true this.1, decide_eq_true (show z < ((4 : Nat) : Int) from this.2)]; rfl
theorem low4 (z : Int) : ∃ a : Nat, bits .and .i64 z 15 = (a : Int) ∧ a < 16 := ⟨(z % 16).toNat, by rw [show bits .and .i64 z 15 = z % 16 from and_low z 4 (by decide)]; omega, by omega⟩
end Go.Proofs.Ytffkehefkmdadaa

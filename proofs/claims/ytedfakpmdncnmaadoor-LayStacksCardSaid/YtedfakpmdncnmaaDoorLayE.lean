/- Layer 7 in plain Lean, for LayStacks: domains of one width, one behind the other and woven. -/
import Derived.Test.YtedfakpmdncnmaaDoorLayR
import Derived.Lib.Join
namespace Go.Proofs.YtedfakpmdncnmaaDoor.LY
open Go.Lib
theorem joinC_join (c : UInt8) : ∀ l : List (List UInt8), joinC c l = join l [c]
  | [] => rfl
  | [x] => (join_one x [c]).symm
  | x :: y :: r => by
    show x ++ c :: joinC c (y :: r) = _
    rw [joinC_join c (y :: r), join_cons, join_cons]
    show x ++ c :: (y ++ joinTail [c] r) = x ++ (((y :: r).map ([c] ++ ·)).flatten)
    simp [joinTail]
/-- the i-th name: d and a letter -/
def stN (i : Nat) : ByteArray := ⟨#[100, UInt8.ofNat (97 + i)]⟩
def stD (W n : Nat) : List Dm := (List.range n).map fun i => ⟨stN i, ((2 ^ W : Nat) : Int)⟩
theorem stD_len (W n : Nat) : (stD W n).length = n := by simp [stD]
theorem stD_at {W n k : Nat} (h : k < n) : at_ (stD W n) k = ⟨stN k, ((2 ^ W : Nat) : Int)⟩ := at_eq (by unfold stD; rw [List.getElem?_map, List.getElem?_range h]; rfl)
theorem stN_name : ∀ i, i < 16 → nameB (stN i) = true := by decide +kernel
theorem stN_inj : ∀ i, i < 16 → ∀ j, j < 16 → stN i = stN j → i = j := by decide +kernel
theorem stW : ∀ W, W < 17 → widD ⟨ByteArray.empty, ((2 ^ W : Nat) : Int)⟩ = W := by decide +kernel
theorem stW2 {W : Nat} (h : W < 17) (s : ByteArray) : widD ⟨s, ((2 ^ W : Nat) : Int)⟩ = W := stW W h
theorem st_sum (W n : Nat) (hW : W < 17) : allW (stD W n) = n * W := by
  unfold allW stD
  rw [List.map_map]
  have : (List.range n).map (widD ∘ fun i => (⟨stN i, ((2 ^ W : Nat) : Int)⟩ : Dm)) = (List.range n).map fun _ => W := List.map_congr_left fun i _ => stW2 hW _
  rw [this]
  induction n with
  | zero => simp
  | succ n ih =>
    have ih := ih (List.map_congr_left fun i _ => stW2 hW _)
    rw [List.range_succ, List.map_append, List.sum_append, ih]
    show _ + (W + 0) = _
    rw [Nat.succ_mul]; omega
theorem st_may {W n : Nat} (hW : W < 17) (hn : n ≤ 16) (h : n * W ≤ 256) : mayB (stD W n) = true := by
  refine may_iff.2 ⟨fun d hd => ?_, ?_, by rw [st_sum W n hW]; exact h, by rw [stD_len]; omega⟩
  · unfold stD at hd
    obtain ⟨i, hi, rfl⟩ := List.mem_map.1 hd
    have hi := List.mem_range.1 hi
    unfold okD
    rw [stN_name i (by omega)]
    have h1 : 1 ≤ 2 ^ W := Nat.one_le_two_pow
    have h2 : 2 ^ W ≤ 2 ^ 16 := Nat.pow_le_pow_right (by decide) (by omega)
    rw [decide_eq_true (by show (1 : Int) ≤ ((2 ^ W : Nat) : Int); omega), decide_eq_true (by show ((2 ^ W : Nat) : Int) ≤ 1073741824; omega)]; rfl
  · unfold stD
    rw [List.map_map]
    refine nodup_on (fun x hx y hy e => stN_inj x (by have := List.mem_range.1 hx; omega) y (by have := List.mem_range.1 hy; omega) e) List.nodup_range
theorem st_w {W n k : Nat} (hW : W < 17) (hk : k < n) : wF (stD W n) k = W := by unfold wF; rw [stD_at hk]; exact stW2 hW _
theorem st_names {W n : Nat} : (stD W n).map (fun d => d.name.data.toList) = (List.range n).map (nm (stD W n)) := by
  unfold stD
  rw [List.map_map]
  refine List.map_congr_left fun i hi => ?_
  have := stD_at (W := W) (List.mem_range.1 hi)
  unfold stD at this
  unfold nm
  rw [this]; rfl
/-- the two orders, as groups -/
def gsS (n : Nat) : List (List Nat) := (List.range n).map fun i => [i]
def gsW (n : Nat) : List (List Nat) := [List.range n]
theorem gsS_flat (n : Nat) : (gsS n).flatten = List.range n := by
  unfold gsS
  induction n with
  | zero => rfl
  | succ n ih => rw [List.range_succ, List.map_append, List.flatten_append, ih]; rfl
theorem bytesD {doms : List Dm} (hm : mayB doms = true) {k : Nat} (hk : k < doms.length) : nm doms k ≠ [] ∧ (95 : UInt8) ∉ nm doms k ∧ (42 : UInt8) ∉ nm doms k := by
  have hok := (may_iff.1 hm).1 _ (List.mem_of_getElem? (at_get hk))
  unfold okD at hok
  rw [Bool.and_eq_true, Bool.and_eq_true] at hok
  exact name_bytes hok.2.2
theorem ordS {doms : List Dm} (hm : mayB doms = true) (h0 : 0 < doms.length) : OrderIs doms (joinC 95 ((List.range doms.length).map (nm doms))) (gsS doms.length) := by
  have h := groups_order (gs := (gsS doms.length).map fun g => g.map (nm doms)) (by
    obtain ⟨n, hn⟩ : ∃ n, doms.length = n + 1 := ⟨doms.length - 1, by omega⟩
    rw [hn]; unfold gsS; simp) (fun g hg => by
    obtain ⟨g', hg', rfl⟩ := List.mem_map.1 hg
    obtain ⟨i, _, rfl⟩ := List.mem_map.1 hg'
    simp) (fun g hg x hx => by
    obtain ⟨g', hg', rfl⟩ := List.mem_map.1 hg
    obtain ⟨i, hi, rfl⟩ := List.mem_map.1 hg'
    have : x = nm doms i := by simpa using hx
    rw [this]
    exact bytesD hm (List.mem_range.1 hi))
  refine ⟨?_, fun k hk => by rw [gsS_flat] at hk; exact List.mem_range.1 hk, by rw [gsS_flat]; exact List.nodup_range, by rw [gsS_flat]; simp⟩
  rw [← h]
  congr 1
  unfold orderT gsS
  rw [List.map_map, List.map_map]
  rfl
theorem ordW {doms : List Dm} (hm : mayB doms = true) (h0 : 0 < doms.length) : OrderIs doms (joinC 42 ((List.range doms.length).map (nm doms))) (gsW doms.length) := by
  have h := groups_order (gs := (gsW doms.length).map fun g => g.map (nm doms)) (by simp [gsW]) (fun g hg => by
    have : g = (List.range doms.length).map (nm doms) := by simpa [gsW] using hg
    rw [this]
    obtain ⟨n, hn⟩ : ∃ n, doms.length = n + 1 := ⟨doms.length - 1, by omega⟩
    rw [hn]; simp) (fun g hg x hx => by
    have : g = (List.range doms.length).map (nm doms) := by simpa [gsW] using hg
    rw [this] at hx
    obtain ⟨i, hi, rfl⟩ := List.mem_map.1 hx
    exact bytesD hm (List.mem_range.1 hi))
  have hf : (gsW doms.length).flatten = List.range doms.length := by simp [gsW]
  exact ⟨h, fun k hk => by rw [hf] at hk; exact List.mem_range.1 hk, by rw [hf]; exact List.nodup_range, by rw [hf]; simp⟩
/-! ### one behind the other -/
theorem grp_one {w : Nat → Nat} (k : Nat) (st : St) : ∀ M, M ≤ w k → grpS w [k] M st = (st.1 + M, fun j => if j = k then st.2 k ++ (List.range M).map (fun x => st.1 + x) else st.2 j)
  | 0, _ => by
    unfold grpS
    show st = _
    refine Prod.ext rfl (funext fun j => ?_)
    by_cases e : j = k
    · subst e; simp
    · simp [e]
  | M + 1, h => by
    rw [grpS_succ, grp_one k st M (by omega)]
    show put1 w M _ k = _
    unfold put1
    rw [if_pos (by omega)]
    refine Prod.ext (by show st.1 + M + 1 = _; omega) (funext fun j => ?_)
    by_cases e : j = k
    · subst e; simp [List.range_succ]
    · simp [e]
theorem grp_one_all {w : Nat → Nat} (k : Nat) (st : St) {M : Nat} (h : w k ≤ M) : grpS w [k] M st = (st.1 + w k, fun j => if j = k then st.2 k ++ (List.range (w k)).map (fun x => st.1 + x) else st.2 j) := by
  have := grpS_idle (w := w) (l := [k]) st (M := w k) (by simp) (M - w k)
  rw [show w k + (M - w k) = M by omega] at this
  rw [this, grp_one k st (w k) (Nat.le_refl _)]
theorem outS_S {w : Nat → Nat} {W M : Nat} (hM : W ≤ M) : ∀ n, (∀ k, k < n → w k = W) → (outS w M (gsS n) stZ).1 = n * W ∧ ∀ i, (outS w M (gsS n) stZ).2 i = if i < n then (List.range W).map (fun x => i * W + x) else []
  | 0, _ => ⟨by simp [gsS, outS, stZ], fun i => by simp [gsS, outS, stZ]⟩
  | n + 1, hw => by
    obtain ⟨h1, h2⟩ := outS_S hM n fun k hk => hw k (by omega)
    have e : outS w M (gsS (n + 1)) stZ = grpS w [n] M (outS w M (gsS n) stZ) := by
      unfold gsS
      rw [List.range_succ, List.map_append]
      unfold outS
      rw [List.foldl_append]; rfl
    have hwn := hw n (by omega)
    rw [e, grp_one_all n _ (by rw [hwn]; exact hM), hwn, h1]
    refine ⟨by show n * W + W = _; rw [Nat.succ_mul], fun i => ?_⟩
    show (if i = n then _ else _) = _
    by_cases e : i = n
    · subst e; rw [if_pos rfl, h2, if_neg (by omega), if_pos (by omega)]; simp
    · rw [if_neg e, h2]
      by_cases h3 : i < n
      · rw [if_pos h3, if_pos (by omega)]
      · rw [if_neg h3, if_neg (by omega)]
/-! ### woven -/
theorem lev_all {w : Nat → Nat} {L : Nat} (st : St) : ∀ n, (∀ k, k < n → L < w k) → levS w (List.range n) L st = (st.1 + n, fun j => if j < n then st.2 j ++ [st.1 + j] else st.2 j)
  | 0, _ => by
    refine Prod.ext rfl (funext fun j => ?_)
    simp [levS]
  | n + 1, h => by
    have ih := lev_all (w := w) (L := L) st n fun k hk => h k (by omega)
    have e : levS w (List.range (n + 1)) L st = put1 w L (levS w (List.range n) L st) n := by
      unfold levS; rw [List.range_succ, List.foldl_append]; rfl
    rw [e, ih]
    unfold put1
    rw [if_pos (h n (by omega))]
    refine Prod.ext (by show st.1 + n + 1 = _; omega) (funext fun j => ?_)
    show (if j = n then _ else _) = _
    by_cases e : j = n
    · subst e; simp
    · by_cases h2 : j < n
      · rw [if_neg e]; simp [h2, show j < n + 1 by omega]
      · rw [if_neg e]; simp [h2, show ¬ j < n + 1 by omega]
theorem grp_all {w : Nat → Nat} {W n : Nat} (hw : ∀ k, k < n → w k = W) : ∀ M, M ≤ W → (grpS w (List.range n) M stZ).1 = M * n ∧ ∀ i, i < n → (grpS w (List.range n) M stZ).2 i = (List.range M).map fun x => x * n + i
  | 0, _ => ⟨by simp [grpS, stZ], fun i _ => by simp [grpS, stZ]⟩
  | M + 1, h => by
    obtain ⟨h1, h2⟩ := grp_all hw M (by omega)
    rw [grpS_succ, lev_all _ n fun k hk => by rw [hw k hk]; omega]
    refine ⟨by show _ + n = _; rw [h1, Nat.succ_mul], fun i hi => ?_⟩
    show (if i < n then _ else _) = _
    rw [if_pos hi, h2 i hi, h1, List.range_succ, List.map_append]; rfl
theorem outS_W {w : Nat → Nat} {W n M : Nat} (hM : W ≤ M) (hw : ∀ k, k < n → w k = W) {i : Nat} (hi : i < n) : (outS w M (gsW n) stZ).2 i = (List.range W).map fun x => x * n + i := by
  have h := grpS_idle (w := w) (l := List.range n) stZ (M := W) (fun k hk => Nat.le_of_eq (hw k (List.mem_range.1 hk))) (M - W)
  rw [show W + (M - W) = M by omega] at h
  show (grpS w (List.range n) M stZ).2 i = _
  rw [h]
  exact (grp_all hw W (Nat.le_refl _)).2 i hi
theorem rev_at {W : Nat} (f : Nat → Nat) {j : Nat} (h : j < W) : (((List.range W).map f).reverse)[j]? = some (f (W - 1 - j)) := by
  rw [List.getElem?_reverse (by simpa using h), List.length_map, List.length_range, List.getElem?_map, List.getElem?_range (by omega)]; rfl
theorem rowS_at {W n i j : Nat} (hW : W < 17) (hi : i < n) (hj : j < W) : (rowP (stD W n) (gsS n) i)[j]? = some (i * W + (W - 1 - j)) := by
  unfold rowP
  rw [(outS_S (w := wF (stD W n)) (W := W) (M := 31) (by omega) n fun k hk => st_w hW hk).2, if_pos hi]
  exact rev_at (fun x => i * W + x) hj
theorem rowW_at {W n i j : Nat} (hW : W < 17) (hi : i < n) (hj : j < W) : (rowP (stD W n) (gsW n) i)[j]? = some ((W - 1 - j) * n + i) := by
  unfold rowP
  rw [outS_W (w := wF (stD W n)) (W := W) (M := 31) (by omega) (fun k hk => st_w hW hk) hi]
  exact rev_at (fun x => x * n + i) hj
end Go.Proofs.YtedfakpmdncnmaaDoor.LY

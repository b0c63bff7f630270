/- Layer 5: set; the contract of Exists. -/
import Derived.Test.YtoegenacjhmicaaQuanC
namespace Go.Proofs.Ytoegenacjhmicaa
open Go.RowKit HP NP
/-! ### a set of any numbers -/
def setZ (s : Int → Bool) : Lit → Option Value
  | .int .i64 z => if s z then some (.bool true) else none
  | _ => none
theorem setZ_at (s : Int → Bool) (z : Int) : setZ s (.int .i64 z) = if s z then some (.bool true) else none := rfl
def putZ (s : Int → Bool) (z : Int) : Int → Bool := fun x => decide (x = z) || s x
theorem setZ_set (s : Int → Bool) (z : Int) : setF (setZ s) (.int .i64 z) (.bool true) = setZ (putZ s z) := by
  funext l
  unfold setF
  by_cases e : l = .int .i64 z
  · subst e
    simp [setZ, putZ, Lit.sameKey]
  · rw [Maps.sameKey_ne e]
    simp only [Bool.false_eq_true, if_false]
    cases l with
    | int kd x =>
      cases kd
      case i64 =>
        have : x ≠ z := by rintro rfl; exact e rfl
        simp [setZ, putZ, this]
      all_goals rfl
    | _ => rfl
/-- how many numbers there are, each once -/
def dcnt : List Int → Nat
  | [] => 0
  | x :: t => if t.contains x then dcnt t else dcnt t + 1
theorem dcnt_le (l : List Int) : dcnt l ≤ l.length := by
  induction l with
  | nil => exact Nat.le_refl _
  | cons x t ih => rw [dcnt]; split <;> simp <;> omega
theorem dcnt_nodup {l : List Int} (h : l.Nodup) : dcnt l = l.length := by
  induction l with
  | nil => rfl
  | cons x t ih =>
    rw [List.nodup_cons] at h
    rw [dcnt, if_neg (by simpa using h.1), ih h.2]; rfl
theorem keyZ (z : Int) (h : (Lit.int .i64 z).wf = true) : keyOf Try.prog 3 (.int .i64 z) = some (.int .i64 z) := Maps.keyOf_int_mk Try.underlying3 h
def ZSet (w : World) (b n : Nat) (s : Int → Bool) : Prop := MapAt w Try.prog 3 b n (setZ s)
theorem rev_take (vs : List Int) (k : Nat) (x : Int) (hk : vs[k]? = some x) : (vs.take (k + 1)).reverse = x :: (vs.take k).reverse := by
  have hkl : k < vs.length := by rcases Nat.lt_or_ge k vs.length with h | h; exact h; rw [List.getElem?_eq_none h] at hk; cases hk
  have hKe : vs[k] = x := by rw [List.getElem?_eq_getElem hkl] at hk; injection hk
  rw [List.take_succ_eq_append_getElem hkl, List.reverse_append, hKe]; rfl
theorem setZ_none : setZ (fun _ => false) = fun _ => none := by
  funext l
  cases l with
  | int kd z => cases kd <;> rfl
  | _ => rfl
set_option maxRecDepth 100000 in
set_option maxHeartbeats 1600000 in
theorem set_ok (w : World) (va : Option Addr) (vs : List Int) (c : Nat) (hl : vs.length ≤ 300) (hv : Cells w va (vs.map fun k => .int .i64 k)) (hwf : ∀ z ∈ vs, (Lit.int .i64 z).wf = true) :
    Calls Try.prog 40 #[.slice va vs.length c] w fun e w' => ∃ b, e = .returned (.map (some b)) ∧ w.heap.size ≤ b ∧ ZSet w' b (dcnt vs.reverse) (fun z => vs.reverse.contains z) ∧ Below w.heap.size w w' := by
  have HV := Lib.hid hv; have HWF := Lib.hid hwf
  have hmk := @run_makeMap Try.prog
  obtain ⟨N, hN⟩ : ∃ N, vs.length = N := ⟨_, rfl⟩
  have HN := Lib.hid hN
  rw [hN] at hl ⊢
  clear hv hwf hN
  go_enter Try.func40, Try.ntmps40
  go_wp2_with fail
  clear hmk
  go_loopg [9] N (fun m x wr => ∃ k : Nat, m + k = N ∧ x = .int .i64 (k : Int) ∧ ZSet wr w.heap.size (dcnt (vs.take k).reverse) (fun z => (vs.take k).reverse.contains z) ∧ Below w.heap.size w wr)
  case atStart =>
    refine ⟨0, rfl, rfl, ?_, (Below.refl _ _).alloc (Nat.le_refl _) _⟩
    have h := MapAt.made w Try.prog 3
    unfold ZSet
    have e : (fun z => ((vs.take 0).reverse).contains z) = fun _ => false := by funext z; simp
    rw [e, setZ_none]
    exact h
  case round =>
    obtain ⟨k, hm, rfl, hz, hb⟩ := hrel
    have HM := Lib.hid hm; have HZ := Lib.hid hz; have HB := Lib.hid hb
    have hbl := hz.lt
    have hsz := hb.size
    clear hm hz hb
    by_cases hlt : k < N
    · obtain ⟨K, hK⟩ : ∃ K, vs[k]? = some K := ⟨_, List.getElem?_eq_getElem (by rw [HN.out]; exact hlt)⟩
      obtain ⟨xb, xo, rfl, hxl, hxc⟩ := (HV.out.below HB.out).at_ (k := k) (v := .int .i64 K) (by rw [List.getElem?_map, hK]; rfl)
      have HKEY := Lib.hid (keyZ K (HWF.out K (List.mem_of_getElem? hK)))
      have hrt := rev_take vs k K hK
      have hnn : (if (setZ (fun z => (vs.take k).reverse.contains z) (.int .i64 K)).isSome then dcnt (vs.take k).reverse else dcnt (vs.take k).reverse + 1) = dcnt (vs.take (k + 1)).reverse := by
        rw [hrt, dcnt, setZ_at]
        cases (vs.take k).reverse.contains K <;> rfl
      have hss : putZ (fun z => (vs.take k).reverse.contains z) K = fun z => (vs.take (k + 1)).reverse.contains z := by
        rw [hrt]
        funext z
        unfold putZ
        simp
      have hmx : dcnt (vs.take k).reverse < maxLen := by
        have := dcnt_le (vs.take k).reverse
        simp at this
        unfold maxLen; omega
      obtain ⟨s, hs⟩ : ∃ s : Int → Bool, s = fun z => (vs.take k).reverse.contains z := ⟨_, rfl⟩
      obtain ⟨n, hn⟩ : ∃ n, n = dcnt (vs.take k).reverse := ⟨_, rfl⟩
      obtain ⟨n', hn'⟩ : ∃ n', n' = dcnt (vs.take (k + 1)).reverse := ⟨_, rfl⟩
      rw [← hs, ← hn] at HZ
      rw [← hs] at hss
      rw [← hn] at hmx
      rw [← hn, ← hn', setZ_at] at hnn
      rw [show ((vs.take k).reverse.contains K) = s K by rw [hs]] at hnn
      rw [← setZ_at] at hnn
      have HN' := Lib.hid hn'
      clear hs hn hn'
      have HNN := Lib.hid hnn; have HSS := Lib.hid hss; have HMX := Lib.hid hmx
      clear hK hrt hnn hss hmx
      go_wp2_with (at_mapUpdate; refine wpList_msetn rfl (.tmp 13) (.tmp 14) (.const (.bool true)) 95 rfl 4 (Maps.int_keyed Try.underlying3) Try.underlying95 rfl HZ.out HMX.out _ (.bool true) _ rfl rfl HKEY.out _ HNN.out ?_)
      rw [setZ_set]
      intro w2 hz2 hg2
      have HZ2 := Lib.hid (show ZSet w2 w.heap.size n' (putZ s K) from hz2)
      have HB2 := Lib.hid (HB.out.grown hg2 (by omega) (fun j hj => by injection hj with hj; omega))
      clear hz2 hg2
      go_wp2_with fail
      go_roundg (N - (k + 1))
      case measure => have := HM.out; omega
      case rel => exact ⟨k + 1, by have := HM.out; omega, by go_num, by have := HZ2.out; rw [HSS.out, HN'.out] at this; exact this, HB2.out⟩
    · have hk2 : k = N := by have := HM.out; omega
      have hz2 := HZ.out
      rw [List.take_of_length_le (by rw [HN.out]; omega)] at hz2
      have HZ2 := Lib.hid hz2
      clear hlt hz2
      subst hk2
      go_wp2_with fail
      go_ret
      exact ⟨_, rfl, Nat.le_refl _, HZ2.out, HB.out⟩
end Go.Proofs.Ytoegenacjhmicaa

/- Layer 6 in plain Lean, for CountNobody: when a list of variables is odd. -/
import Derived.Test.YtoegenacjhmicaaCountZ
import Derived.Test.YtoegenacjhmicaaCountO
namespace Go.Proofs.Ytoegenacjhmicaa
open Go.RowKit HP NP
def outV (z : Int) : Bool := decide (z < 0) || decide (3 < z)
/-- is one of the first so many odd: out of bounds, or there already? -/
def oddN (zs : List Int) : Nat → Bool
  | 0 => false
  | i + 1 => (oddN zs i || outV (zs.getD i 0)) || (zs.take i).any (fun x => zs.getD i 0 == x)
theorem oddN_false {zs : List Int} : ∀ i, i ≤ zs.length → (oddN zs i = false ↔ (∀ z ∈ zs.take i, outV z = false) ∧ (zs.take i).Nodup) := by
  intro i
  induction i with
  | zero => intro _; simp [oddN]
  | succ i ih =>
    intro hi
    have hx : zs[i]? = some (zs[i]'(by omega)) := List.getElem?_eq_getElem (by omega)
    have hd : zs.getD i 0 = zs[i]'(by omega) := by rw [List.getD_eq_getElem?_getD, hx]; rfl
    obtain ⟨x, hxe⟩ : ∃ x, zs[i]'(by omega) = x := ⟨_, rfl⟩
    rw [hxe] at hx hd
    have e : zs.take (i + 1) = zs.take i ++ [x] := by rw [List.take_add_one, hx]; rfl
    show (((oddN zs i || outV (zs.getD i 0)) || (zs.take i).any (fun y => zs.getD i 0 == y)) = false) ↔ _
    rw [hd, Bool.or_eq_false_iff, Bool.or_eq_false_iff, ih (by omega), e]
    have hany : (zs.take i).any (fun y => x == y) = false ↔ x ∉ zs.take i := by
      rw [List.any_eq_false]
      constructor
      · intro h hm; exact h x hm (by simp)
      · intro h y hy hxy
        rw [beq_iff_eq] at hxy
        exact h (hxy ▸ hy)
    rw [hany, List.nodup_append]
    constructor
    · rintro ⟨⟨⟨h1, h2⟩, h3⟩, h4⟩
      refine ⟨fun z hz => ?_, h2, by simp, fun a ha b hb => ?_⟩
      · rcases List.mem_append.1 hz with hz | hz
        · exact h1 z hz
        · rw [List.mem_singleton.1 hz]; exact h3
      · rw [List.mem_singleton.1 hb]
        rintro rfl
        exact h4 ha
    · rintro ⟨h1, h2, _, h4⟩
      exact ⟨⟨⟨fun z hz => h1 z (List.mem_append_left _ hz), h2⟩, h1 x (by simp)⟩, fun hm => h4 x hm x (by simp) rfl⟩
theorem odd_okV {S : NS} (h4 : S.vars = 4) (zs : List Int) : oddN zs zs.length = false ↔ okV S zs := by
  rw [oddN_false _ (Nat.le_refl _), List.take_length]
  unfold okV
  refine and_congr ?_ Iff.rfl
  refine forall_congr' fun z => forall_congr' fun _ => ?_
  rw [inV_iff, h4]
  unfold outV
  simp
  omega
/-! ### errors alone -/
theorem isK_low (n : Nat) (k : Int) : isK (newS 4 n).l k = !(decide (k < 0) || decide (1 < k)) := by
  by_cases h : 0 ≤ k
  · obtain ⟨m, rfl⟩ : ∃ m : Nat, k = (m : Int) := ⟨k.toNat, by omega⟩
    rw [isK_nat, decide_eq_false (show ¬ (m : Int) < 0 by omega), Bool.false_or]
    rcases Nat.lt_or_ge m 2 with hm | hm
    · rw [decide_eq_false (by omega)]
      rcases (by omega : m = 0 ∨ m = 1) with rfl | rfl <;> rfl
    · rw [decide_eq_true (by omega)]
      unfold isB
      rw [nd_ge (by show 2 ≤ m; exact hm)]
      rfl
  · rw [isK_neg (by omega), decide_eq_true (show k < 0 by omega)]; rfl
theorem leaf_ask {S : NS} {k v : Nat} (hk : k < 2) : v ∉ asksL S k := fun h => by
  unfold asksL at h
  have := (List.mem_filter.1 h).2
  rw [askB_leaf _ _ hk] at this; cases this
theorem err_odd {n : Nat} {zs : List Int} {k : Int} (h : oddN zs zs.length = true) : withE (newS 4 n) k zs = 1 := withE_no fun hok => by
  rw [(odd_okV (S := newS 4 n) rfl zs).2 hok] at h; cases h
theorem err_gone {n : Nat} {zs : List Int} {k : Int} (h : oddN zs zs.length = false) (hg : (decide (k < 0) || decide (1 < k)) = true) : withE (newS 4 n) k zs = 3 := withE_none ((odd_okV (S := newS 4 n) rfl zs).1 h) (by rw [isK_low, hg]; rfl)
theorem err_fine {n : Nat} {zs : List Int} {k : Int} (h : oddN zs zs.length = false) (hg : (decide (k < 0) || decide (1 < k)) = false) : withE (newS 4 n) k zs = 0 := withE_ok ((odd_okV (S := newS 4 n) rfl zs).1 h) (by rw [isK_low, hg]; rfl) fun v hv => by
  rw [Bool.or_eq_false_iff] at hg
  have h0 := of_decide_eq_false hg.1
  have h1 := of_decide_eq_false hg.2
  exact absurd hv (leaf_ask (by omega))
def askE (S : NS) (k : Int) : Int := if isK S.l k = true then 0 else 3
section
variable {w : World} {B p : Nat} {S : NS}
theorem sat_err (h : Sto w B p S) (k : Int) (a : Option Addr) (zs : List Int) (c : Nat) (hl : zs.length ≤ 1000) (hc : Cells w a (zV zs)) (hwf : ∀ z ∈ zs, (Lit.int .i64 z).wf = true) :
    Calls Try.prog 30 #[.pointer (some ⟨p, 0, none⟩), .int .i64 k, .slice a zs.length c] w fun e w' => Below w.heap.size w w' ∧ ∃ n : Int, e = .returned (.tuple #[.int .i64 n, .int .i64 (withE S k zs)]) := by
  refine (csat_ok w B p S h k a zs c hl hc hwf).mono ?_
  rintro e w' ⟨hb, ⟨_, rfl⟩ | ⟨h0, m, _, rfl⟩⟩
  · exact ⟨hb, 0, rfl⟩
  · exact ⟨hb, _, by rw [h0]⟩
theorem asks_err (h : Sto w B p S) (k : Int) : Calls Try.prog 23 #[.pointer (some ⟨p, 0, none⟩), .int .i64 k] w fun e w' => Below w.heap.size w w' ∧ ∃ v, e = .returned (.tuple #[v, .int .i64 (askE S k)]) := by
  refine (asks_ok w B p S h k).mono ?_
  rintro e w' ⟨hb, ⟨hk, rfl⟩ | ⟨hk, v, rfl, _⟩⟩
  · exact ⟨hb, _, by unfold askE; rw [hk]; rfl⟩
  · exact ⟨hb, v, by unfold askE; rw [hk]; rfl⟩
theorem cubes_err (h : Sto w B p S) (hv1 : 1 ≤ S.vars) (k most : Int) : Calls Try.prog 26 #[.pointer (some ⟨p, 0, none⟩), .int .i64 k, .int .i64 most] w fun e w' => Below w.heap.size w w' ∧ ∃ v, e = .returned (.tuple #[v, .int .i64 (cubE S k most)]) := by
  refine (cubes_ok w B p S h hv1 k most).mono ?_
  rintro e w' ⟨hb, ⟨_, rfl⟩ | ⟨h0, y, _, rfl, _⟩⟩
  · exact ⟨hb, _, rfl⟩
  · exact ⟨hb, y, by rw [h0]⟩
end
theorem cubE_one {S : NS} {k most : Int} (h0 : ¬ most < 0) (h1 : ¬ 16384 < most) : (cubE S k most == 1) = false := by
  rw [beq_eq_false_iff_ne]
  unfold cubE
  rw [if_neg (by omega)]
  split
  · decide
  · split <;> decide
end Go.Proofs.Ytoegenacjhmicaa

/- Layer 5: maps of pairs of numbers (PMap); the contracts of below, product and Product. -/
import Derived.Test.YtffkehefkmdadaaQuanE
import Derived.WideKeyArr
import Derived.WideKeyPair
namespace Go.Proofs.Ytffkehefkmdadaa
open Go.RowKit HP NP
open Go.WideMaps (ArrKey keyOf_pair)
theorem arr2 : ArrKey Try.prog 158 3 2 := ⟨Try.underlying158, by kernel_rfl, by kernel_rfl, by kernel_rfl⟩
theorem arr2_keyed : Maps.Keyed Try.prog 158 := Maps.Keyed.of_law arr2.law
def pk (a b : Nat) : Lit := .string (keyBytes [.int .i64 (a : Int), .int .i64 (b : Int)])
theorem wf_nat (k : Nat) (h : k ≤ 1048576) : (Lit.int .i64 (k : Int)).wf = true := by rw [← IntWalk.wrap64_in (k : Int) ⟨by omega, by omega⟩]; exact wrap64_wf _
theorem key_pair (a b : Nat) (ha : a ≤ 1048576) (hb : b ≤ 1048576) : keyOf Try.prog 158 (.agg #[.int .i64 (a : Int), .int .i64 (b : Int)]) = some (pk a b) :=
  keyOf_pair arr2 Try.underlying3 ⟨Try.prog.types.size - 1, by kernel_rfl⟩ (wf_nat a ha) (wf_nat b hb)
theorem pk_inj {a b a' b' : Nat} (ha : a ≤ 1048576) (hb : b ≤ 1048576) (ha' : a' ≤ 1048576) (hb' : b' ≤ 1048576) (h : pk a b = pk a' b') : a = a' ∧ b = b' := by
  unfold pk at h
  injection h with h
  have h2 := keyBytes_inj (l := [.int .i64 (a : Int), .int .i64 (b : Int)]) (l' := [.int .i64 (a' : Int), .int .i64 (b' : Int)]) ⟨rfl, rfl, trivial⟩ (by
    intro x hx
    simp at hx
    rcases hx with rfl | rfl
    · exact wf_nat a ha
    · exact wf_nat b hb) (by
    intro x hx
    simp at hx
    rcases hx with rfl | rfl
    · exact wf_nat a' ha'
    · exact wf_nat b' hb') h
  injection h2 with h3 h4
  injection h4 with h4 _
  injection h3 with _ h3
  injection h4 with _ h4
  omega
theorem sameKey_pk {a b a' b' : Nat} (ha : a ≤ 1048576) (hb : b ≤ 1048576) (ha' : a' ≤ 1048576) (hb' : b' ≤ 1048576) : (pk a' b').sameKey (pk a b) = decide (a' = a ∧ b' = b) := by
  by_cases h : a' = a ∧ b' = b
  · obtain ⟨rfl, rfl⟩ := h
    rw [sameKey_self (by exact trivial)]
    simp
  · rw [decide_eq_false h]
    exact Maps.sameKey_ne fun e => h (pk_inj ha' hb' ha hb e)
/-- block b is a map of n pairs of numbers below L: what m says of each pair's number -/
def PMap (w : World) (b L : Nat) (m : Nat → Option Nat) : Prop :=
  ∃ F, MapAt w Try.prog 158 b (cntS (fun k => (m k).isSome) (L * L)) F ∧ ∀ a c, a < L → c < L → F (pk a c) = (m (a * L + c)).map fun n : Nat => .int .i64 (n : Int)
theorem PMap.new (w : World) (L : Nat) : PMap (w.alloc (.map #[] 0)) w.heap.size L (fun _ => none) := by
  have h := MapAt.made w Try.prog 158
  have c : cntS (fun k => ((fun _ => none : Nat → Option Nat) k).isSome) (L * L) = 0 := by unfold cntS; simp
  exact ⟨fun _ => none, by rw [c]; exact h, fun _ _ _ _ => rfl⟩
theorem PMap.is {w : World} {b L : Nat} {m : Nat → Option Nat} (h : PMap w b L m) : IsMap w b := by obtain ⟨F, h, _⟩ := h; exact h.block
theorem PMap.below {w w' : World} {b L : Nat} {m : Nat → Option Nat} (h : PMap w b L m) (hb : Below w.heap.size w w') : PMap w' b L m := by obtain ⟨F, h, h2⟩ := h; exact ⟨F, h.below hb, h2⟩
theorem PMap.kp {T : TypeId → Bool} {B : Nat} {w w' : World} {b L : Nat} {m : Nat → Option Nat} (h : PMap w b L m) (hk : Kp T B w w') : PMap w' b L m := by obtain ⟨F, h, h2⟩ := h; exact ⟨F, h.kp hk, h2⟩
theorem pair_lt {a c L : Nat} (ha : a < L) (hc : c < L) : a * L + c < L * L := by
  have h : (a + 1) * L ≤ L * L := Nat.mul_le_mul_right L ha
  rw [Nat.add_mul, Nat.one_mul] at h
  omega
theorem pair_inj {a c a' c' L : Nat} (hc : c < L) (hc' : c' < L) (h : a * L + c = a' * L + c') : a = a' ∧ c = c' := by
  have hL : 0 < L := by omega
  have e1 : (a * L + c) / L = a := by rw [Nat.add_comm, Nat.add_mul_div_right _ _ hL, Nat.div_eq_of_lt hc, Nat.zero_add]
  have e2 : (a' * L + c') / L = a' := by rw [Nat.add_comm, Nat.add_mul_div_right _ _ hL, Nat.div_eq_of_lt hc', Nat.zero_add]
  have ea : a = a' := by rw [← e1, ← e2, h]
  subst ea
  omega
set_option maxHeartbeats 400000 in
theorem qbelow_ok (w : World) (B p q qn : Nat) (S : NS) (h : Sto w B p S) (hq : QuBlk w qn p q) (v k : Nat) (hk : isB S.l k = true) :
    Calls Try.prog 108 #[.pointer (some ⟨qn, 0, none⟩), .int .i64 (v : Int), .int .i64 (k : Int)] w fun e w' => e = .returned (.tuple #[.int .i64 (sLow S v k : Int), .int .i64 (sHigh S v k : Int)]) ∧ ∃ n, w' = w.drewN n := by
  have HA := Lib.hid (nask_ok w B p S h (k : Int))
  rw [askV_yes (by rw [isK_nat]; exact hk), Int.toNat_natCast] at HA
  have hql := hq.lt
  have c1 : w.cell? ⟨qn, 1, none⟩ = some (.pointer (some ⟨p, 0, none⟩)) := hq.cell 1
  clear h hq hk
  unfold sLow sHigh
  by_cases e : (nd S.l k).v = v
  · rw [if_pos e, if_pos e]
    have hne : (((nd S.l k).v : Int) != (v : Int)) = false := by rw [e]; simp
    clear e
    go_enter Try.func108, Try.ntmps108
    go_wp2_with fail
    refine HA.out.mono ?_
    rintro e w' ⟨rfl, n2, rfl⟩
    go_wp2_with fail
    go_ret2
    exact ⟨rfl, _, rfl⟩
  · rw [if_neg e, if_neg e]
    have hne : (((nd S.l k).v : Int) != (v : Int)) = true := by rw [bne_iff_ne]; omega
    clear e
    go_enter Try.func108, Try.ntmps108
    go_wp2_with fail
    refine HA.out.mono ?_
    rintro e w' ⟨rfl, n2, rfl⟩
    go_wp2_with fail
    go_ret2
    exact ⟨rfl, _, rfl⟩
end Go.Proofs.Ytffkehefkmdadaa
namespace Go.Proofs.Ytffkehefkmdadaa
open Go.RowKit HP NP
theorem PMap.set {w : World} {b L : Nat} {m : Nat → Option Nat} {F : Lit → Option Value} (hL : L ≤ 1048576) (hF : ∀ a c, a < L → c < L → F (pk a c) = (m (a * L + c)).map fun n : Nat => .int .i64 (n : Int)) {lo hi n : Nat} (hlo : lo < L) (hhi : hi < L)
    (h : MapAt w Try.prog 158 b (cntS (fun k => (updM m (lo * L + hi) n k).isSome) (L * L)) (setF F (pk lo hi) (.int .i64 (n : Int)))) : PMap w b L (updM m (lo * L + hi) n) := by
  refine ⟨_, h, fun a c ha hc => ?_⟩
  unfold setF
  rw [sameKey_pk (a := lo) (b := hi) (a' := a) (b' := c) (by omega) (by omega) (by omega) (by omega), hF a c ha hc]
  unfold updM
  by_cases e : a = lo ∧ c = hi
  · obtain ⟨rfl, rfl⟩ := e
    simp
  · have e2 : ¬ (a * L + c = lo * L + hi) := fun h => e (pair_inj hc hhi h)
    rw [decide_eq_false e, if_neg (by decide), if_neg e2]
/-- what was found of pairs is right -/
def PairOk (S0 S : NS) (s : Nat → Bool) (m : Nat → Option Nat) : Prop := ∀ a c n, a < S0.l.length → c < S0.l.length → m (a * S0.l.length + c) = some n → Den S n (prT S0 s a c)
theorem PairOk.ext {S0 S S' : NS} {s : Nat → Bool} {m : Nat → Option Nat} (h : PairOk S0 S s m) (he : Ext S S') (hW : Wf S) (hW' : Wf S') : PairOk S0 S' s m := fun a c n ha hc hk => (h a c n ha hc hk).ext he hW hW'
theorem PairOk.upd {S0 S : NS} {s : Nat → Bool} {m : Nat → Option Nat} (h : PairOk S0 S s m) {a c n : Nat} (_ha : a < S0.l.length) (hc : c < S0.l.length) (hd : Den S n (prT S0 s a c)) : PairOk S0 S s (updM m (a * S0.l.length + c) n) := fun a' c' x ha' hc' hj => by
  unfold updM at hj
  split at hj
  · rename_i e
    obtain ⟨rfl, rfl⟩ := pair_inj hc' hc e
    injection hj with hj
    rw [← hj]; exact hd
  · exact h a' c' x ha' hc' hj
def ProdPost (B p q b : Nat) (S0 : NS) (s : Nat → Bool) (f a c : Nat) (S : NS) (w : World) (e : Ending) (w' : World) : Prop :=
  ∃ S' m', Sto w' B p S' ∧ OpsM w' B p q S' ∧ PMap w' b S0.l.length m' ∧ PairOk S0 S' s m' ∧ Km TO B b w w' ∧
    ((∃ k' : Nat, e = .returned (.tuple #[.int .i64 (k' : Int), .int .i64 0]) ∧ GotOk S (prT S0 s a c) (tot (fun f => 2 ^ f) f) S' k') ∨ (e = .returned (.tuple #[.int .i64 0, .int .i64 30]) ∧ GotNo S (tot (fun f => 2 ^ f) f) S'))
theorem sLow_ext {S0 S : NS} (he : Ext S0 S) {v k : Nat} (hk : isB S0.l k = true) : sLow S v k = sLow S0 v k := by unfold sLow; rw [he.nds k hk]
theorem sHigh_ext {S0 S : NS} (he : Ext S0 S) {v k : Nat} (hk : isB S0.l k = true) : sHigh S v k = sHigh S0 v k := by unfold sHigh; rw [he.nds k hk]
theorem PMap.km {T : TypeId → Bool} {B c : Nat} {w w' : World} {b L : Nat} {m : Nat → Option Nat} (h : PMap w b L m) (hc : IsMap w c) (hne : b ≠ c) (hk : Km T B c w w') : PMap w' b L m := by
  obtain ⟨F, h, h2⟩ := h
  refine ⟨F, MapAt.keep h (hk.block b (MapAt.lt h) ?_), h2⟩
  rintro (⟨_, cs, t, f, h3, _⟩ | e)
  · obtain ⟨es, c2, hm⟩ := MapAt.block h
    rw [hm] at h3; cases h3
  · exact hne e
set_option maxRecDepth 100000 in
set_option maxHeartbeats 1600000 in
theorem prod_leaf (B p q qn b g n f : Nat) (S0 : NS) (s : Int → Bool) (w : World) (S : NS) (a c : Nat) (m : Nat → Option Nat) (_hi : QuBlk w qn p q) (h : Sto w B p S) (ho : OpsM w B p q S) (_hz : ZSet w g n s) (hm : PMap w b S0.l.length m) (hmo : PairOk S0 S (inS s) m)
    (hac : (a = 0 ∨ c = 0) ∨ (a = 1 ∧ c = 1)) :
    Calls Try.prog 82 #[.pointer (some ⟨qn, 0, none⟩), .int .i64 (a : Int), .int .i64 (c : Int), .map (some g), .map (some b)] w (ProdPost B p q b S0 (inS s) f a c S w) := by
  rcases hac with hz | ⟨rfl, rfl⟩
  · have hp : ProdPost B p q b S0 (inS s) f a c S w (.returned (.tuple #[.int .i64 0, .int .i64 0])) w :=
      ⟨S, m, h, ho, hm, hmo, Km.refl _ _ _ _, .inl ⟨0, rfl, GotOk.same h.wf ((Den.zero h.wf).cong fun ρ => (prT_zero _ hz ρ).symm)⟩⟩
    have HP := Lib.hid hp
    clear hp h ho hm hmo
    by_cases ha : a = 0
    · have e0 : ((a : Int) == 0) = true := by rw [ha]; rfl
      clear hz ha
      go_enter Try.func82, Try.ntmps82
      go_wp2_with fail
      go_ret2
      exact HP.out
    · have e0 : ((a : Int) == 0) = false := by rw [beq_eq_false_iff_ne]; omega
      have e1 : ((c : Int) == 0) = true := by rw [beq_iff_eq]; omega
      clear hz ha
      go_enter Try.func82, Try.ntmps82
      go_wp2_with fail
      go_ret2
      exact HP.out
  · have hp : ProdPost B p q b S0 (inS s) f 1 1 S w (.returned (.tuple #[.int .i64 1, .int .i64 0])) w :=
      ⟨S, m, h, ho, hm, hmo, Km.refl _ _ _ _, .inl ⟨1, rfl, GotOk.same h.wf ((Den.one h.wf).cong fun ρ => (prT_one _ ρ).symm)⟩⟩
    have HP := Lib.hid hp
    clear hp h ho hm hmo
    go_enter Try.func82, Try.ntmps82
    go_wp2_with fail
    go_ret2
    exact HP.out
end Go.Proofs.Ytffkehefkmdadaa
namespace Go.Proofs.Ytffkehefkmdadaa
open Go.RowKit HP NP
open Go.WideMaps (keyOf_pair)
set_option maxRecDepth 100000 in
set_option maxHeartbeats 1600000 in
theorem prod_hit (B p q qn b g n f : Nat) (S0 : NS) (hL : S0.l.length ≤ 1048576) (s : Int → Bool) (w : World) (S : NS) (a c : Nat) (m : Nat → Option Nat) (_hi : QuBlk w qn p q) (h : Sto w B p S) (ho : OpsM w B p q S) (_hz : ZSet w g n s) (hm : PMap w b S0.l.length m) (hmo : PairOk S0 S (inS s) m)
    (hac : ¬ ((a = 0 ∨ c = 0) ∨ (a = 1 ∧ c = 1))) (ha : a < S0.l.length) (hc : c < S0.l.length) (lo hi x : Nat) (hlo : lo = min a c) (hhi : hi = max a c) (hx : m (lo * S0.l.length + hi) = some x) :
    Calls Try.prog 82 #[.pointer (some ⟨qn, 0, none⟩), .int .i64 (a : Int), .int .i64 (c : Int), .map (some g), .map (some b)] w (ProdPost B p q b S0 (inS s) f a c S w) := by
  obtain ⟨F, hM, hF⟩ := hm
  have hd : Den S x (prT S0 (inS s) a c) := by
    have h1 := hmo lo hi x (by omega) (by omega) hx
    rcases Nat.le_total a c with hle | hle
    · rw [show lo = a by omega, show hi = c by omega] at h1; exact h1
    · rw [show lo = c by omega, show hi = a by omega] at h1
      exact h1.cong fun ρ => prT_comm _ _ _ ρ
  have hp : ∀ w', Below w.heap.size w w' → ProdPost B p q b S0 (inS s) f a c S w (.returned (.tuple #[.int .i64 (x : Int), .int .i64 0])) w' := fun w' hb =>
    ⟨S, m, h.below hb, ho.below hb, PMap.below ⟨F, hM, hF⟩ hb, hmo, Km.of_below hb, .inl ⟨x, rfl, GotOk.same h.wf hd⟩⟩
  have HP := Lib.hid hp
  have hFx := hF lo hi (by omega) (by omega)
  rw [hx] at hFx
  have hat : atF F (pk lo hi) (.int .i64 0) = .int .i64 (x : Int) := by unfold atF; rw [hFx]; rfl
  have his : (F (pk lo hi)).isSome = true := by rw [hFx]; rfl
  have HAT := Lib.hid hat; have HIS := Lib.hid his; have HM := Lib.hid hM
  have HKEY := Lib.hid (key_pair lo hi (by omega) (by omega))
  have e0 : ((a : Int) == 0) = false := by rw [beq_eq_false_iff_ne]; omega
  have e1 : ((c : Int) == 0) = false := by rw [beq_eq_false_iff_ne]; omega
  have e2 : ((a : Int) == 1) = false ∨ (((a : Int) == 1) = true ∧ ((c : Int) == 1) = false) := by
    by_cases h1 : a = 1
    · right; exact ⟨by rw [beq_iff_eq]; omega, by rw [beq_eq_false_iff_ne]; omega⟩
    · left; rw [beq_eq_false_iff_ne]; omega
  have e4 : (if c < a then (c : Int) else (a : Int)) = (lo : Int) := by split <;> omega
  have e5 : (if a < c then (c : Int) else (a : Int)) = (hi : Int) := by split <;> omega
  clear hp hd h ho hM hmo hx hFx hat his hF hac ha hc hL hlo hhi
  rcases e2 with e2 | ⟨e2, e3⟩
  all_goals
    go_enter Try.func82, Try.ntmps82
    go_wp2_with (at_lookup; refine wpList_mlook_ok rfl (.tmp 52) (.tmp 53) 125 rfl 3 arr2_keyed Try.underlying125 (zeroI _) rfl (HM.out.below ((Below.refl _ _).alloc (Nat.le_refl _) _)) _ _ rfl HKEY.out ?_; rw [HAT.out, HIS.out])
    go_ret2
    exact HP.out _ ((Below.refl _ _).alloc (Nat.le_refl _) _)
end Go.Proofs.Ytffkehefkmdadaa
namespace Go.Proofs.Ytffkehefkmdadaa
open Go.RowKit HP NP
theorem tot_sum {C : Nat → Nat} {f x y z u : Nat} (h1 : y ≤ x + tot C f) (h2 : z ≤ y + tot C f) (h3 : u ≤ z + C f) : u ≤ x + tot C (f + 1) := by show u ≤ x + (tot C f + tot C f + C f); omega
theorem tot_room {C : Nat → Nat} {f x y z c b : Nat} (h1 : y ≤ x + tot C f) (h2 : z ≤ y + tot C f) (h3 : b < z + c) (hc : c ≤ C f) : b < x + tot C (f + 1) := by show b < x + (tot C f + tot C f + C f); omega
theorem tot_room1 {C : Nat → Nat} {f x y b : Nat} (h1 : y ≤ x + tot C f) (h3 : b < y + tot C f) : b < x + tot C (f + 1) := by show b < x + (tot C f + tot C f + C f); omega
theorem tot_le (C : Nat → Nat) (f : Nat) : tot C f ≤ tot C (f + 1) := by show tot C f ≤ tot C f + tot C f + C f; omega
theorem pm_cnt {F : Lit → Option Value} {m : Nat → Option Nat} {lo hi L x : Nat} (hlo : lo < L) (hhi : hi < L) (hF : F (pk lo hi) = (m (lo * L + hi)).map fun n : Nat => .int .i64 (n : Int)) :
    (if (F (pk lo hi)).isSome then cntS (fun j => (m j).isSome) (L * L) else cntS (fun j => (m j).isSome) (L * L) + 1) = cntS (fun j => (updM m (lo * L + hi) x j).isSome) (L * L) := by
  rw [hF]
  cases hm : m (lo * L + hi) with
  | none => rw [cnt_updM (pair_lt hlo hhi) hm]; rfl
  | some y =>
    show cntS (fun j => (m j).isSome) (L * L) = _
    refine cntS_congr _ fun j => ?_
    unfold updM
    by_cases e : j = lo * L + hi
    · subst e; simp [hm]
    · simp [e]
theorem pm_lt {m : Nat → Option Nat} {L : Nat} (hL : L ≤ 1048576) : cntS (fun j => (m j).isSome) (L * L) < maxLen := by
  have h1 := cntS_le (fun j => (m j).isSome) (L * L)
  have h2 : L * L ≤ 1048576 * 1048576 := Nat.mul_le_mul hL hL
  have h3 : (1048576 * 1048576 : Nat) < maxLen := by unfold maxLen; decide
  omega
def ProdIH (B p q qn b g n : Nat) (S0 : NS) (s : Int → Bool) (f : Nat) : Prop :=
  ∀ (w : World) (S : NS) (a c : Nat) (m : Nat → Option Nat), QuBlk w qn p q → Sto w B p S → OpsM w B p q S → B ≤ w.heap.size → Ext S0 S → ZSet w g n s → PMap w b S0.l.length m → PairOk S0 S (inS s) m → isB S0.l a = true → isB S0.l c = true → S0.vars ≤ (nd S0.l a).v + f → S0.vars ≤ (nd S0.l c).v + f →
    Calls Try.prog 82 #[.pointer (some ⟨qn, 0, none⟩), .int .i64 (a : Int), .int .i64 (c : Int), .map (some g), .map (some b)] w (ProdPost B p q b S0 (inS s) f a c S w)
set_option maxRecDepth 100000 in
set_option maxHeartbeats 6400000 in
theorem prod_miss (B p q qn b g n f : Nat) (S0 : NS) (hW0 : Wf S0) (hBb : B ≤ b) (hgb : g ≠ b) (s : Int → Bool) (ih : ProdIH B p q qn b g n S0 s f) (w : World) (S : NS) (a c : Nat) (m : Nat → Option Nat) (hq : QuBlk w qn p q) (h : Sto w B p S) (ho : OpsM w B p q S) (hB : B ≤ w.heap.size) (he : Ext S0 S) (hz : ZSet w g n s) (hm : PMap w b S0.l.length m) (hmo : PairOk S0 S (inS s) m)
    (ha : isB S0.l a = true) (hc : isB S0.l c = true) (hac : ¬ ((a = 0 ∨ c = 0) ∨ (a = 1 ∧ c = 1))) (fa : S0.vars ≤ (nd S0.l a).v + (f + 1)) (fc : S0.vars ≤ (nd S0.l c).v + (f + 1)) (lo hi : Nat) (hlo : lo = min a c) (hhi : hi = max a c) (hx : m (lo * S0.l.length + hi) = none) :
    Calls Try.prog 82 #[.pointer (some ⟨qn, 0, none⟩), .int .i64 (a : Int), .int .i64 (c : Int), .map (some g), .map (some b)] w (ProdPost B p q b S0 (inS s) (f + 1) a c S w) := by
  have hL : S0.l.length ≤ 1048576 := by have := hW0.lm; omega
  have hal := isB_lt ha; have hcl := isB_lt hc
  have HPL := Lib.hid hm
  obtain ⟨F, hM, hF⟩ := hm
  have hFx := hF lo hi (by omega) (by omega)
  rw [hx] at hFx
  have hat : atF F (pk lo hi) (.int .i64 0) = .int .i64 0 := by unfold atF; rw [hFx]; rfl
  have his : (F (pk lo hi)).isSome = false := by rw [hFx]; rfl
  have HAT := Lib.hid hat; have HIS := Lib.hid his; have HM := Lib.hid hM
  have HKEY := Lib.hid (key_pair lo hi (by omega) (by omega))
  have e0 : ((a : Int) == 0) = false := by rw [beq_eq_false_iff_ne]; omega
  have e1 : ((c : Int) == 0) = false := by rw [beq_eq_false_iff_ne]; omega
  have e2 : ((a : Int) == 1) = false ∨ (((a : Int) == 1) = true ∧ ((c : Int) == 1) = false) := by
    by_cases h1 : a = 1
    · right; exact ⟨by rw [beq_iff_eq]; omega, by rw [beq_eq_false_iff_ne]; omega⟩
    · left; rw [beq_eq_false_iff_ne]; omega
  have e4 : (if c < a then (c : Int) else (a : Int)) = (lo : Int) := by split <;> omega
  have e5 : (if a < c then (c : Int) else (a : Int)) = (hi : Int) := by split <;> omega
  obtain ⟨v, hv⟩ : ∃ v, v = min (nd S0.l a).v (nd S0.l c).v := ⟨_, rfl⟩
  have hvv : v < S0.vars := by
    have l1 := leaf_v hW0 (k := a); have l2 := leaf_v hW0 (k := c)
    rcases Nat.lt_or_ge a 2 with h2 | h2
    · rcases Nat.lt_or_ge c 2 with h3 | h3
      · omega
      · have := (hW0.kid c h3 hc).1; omega
    · have := (hW0.kid a h2 ha).1; omega
  have hsa := split_ok hW0 ha hvv (by omega)
  have hsc := split_ok hW0 hc hvv (by omega)
  have e6 : (if (nd S0.l c).v < (nd S0.l a).v then ((nd S0.l c).v : Int) else ((nd S0.l a).v : Int)) = (v : Int) := by split <;> omega
  have hv256 := hW0.v256
  have HKV := Lib.hid (keyI v (by omega))
  obtain ⟨w1, hw1⟩ : ∃ w1, w1 = w.alloc (.cells #[.int .i64 (lo : Int), .int .i64 (hi : Int)] 158) := ⟨_, rfl⟩
  have hbl1 : Below w.heap.size w w1 := by rw [hw1]; exact (Below.refl _ _).alloc (Nat.le_refl _) _
  have hbx1 : Blk w1 w.heap.size 158 #[.int .i64 (lo : Int), .int .i64 (hi : Int)] := by rw [hw1]; exact Blk.new_ w _ _
  have hsz1 : w1.heap.size = w.heap.size + 1 := by rw [hw1]; simp
  have H1 : Hid (w1 = w.alloc (.cells #[.int .i64 (lo : Int), .int .i64 (hi : Int)] 158)) := Lib.hid hw1
  have HB1 := Lib.hid hbl1; have HX1 := Lib.hid hbx1; have HSZ := Lib.hid hsz1
  have HA := Lib.hid (nask_ok w1 B p S (h.below hbl1) (a : Int))
  have HAV := Lib.hid (askV_yes (S := S) (k := (a : Int)) (by rw [isK_nat]; exact he.isB ha))
  rw [Int.toNat_natCast, he.nds a ha] at HAV
  have HC := Lib.hid (fun (W : World) (hb : Below w.heap.size w W) => nask_ok W B p S (h.below hb) (c : Int))
  have HCV := Lib.hid (askV_yes (S := S) (k := (c : Int)) (by rw [isK_nat]; exact he.isB hc))
  rw [Int.toNat_natCast, he.nds c hc] at HCV
  have HBA := Lib.hid (fun (W : World) (hb : Below w.heap.size w W) => qbelow_ok W B p q qn S (h.below hb) (hq.below hb hq.lt) v a (he.isB ha))
  rw [sLow_ext he ha, sHigh_ext he ha] at HBA
  have HBC := Lib.hid (fun (W : World) (hb : Below w.heap.size w W) => qbelow_ok W B p q qn S (h.below hb) (hq.below hb hq.lt) v c (he.isB hc))
  rw [sLow_ext he hc, sHigh_ext he hc] at HBC
  have hvS : v < S0.vars := hvv
  obtain ⟨a0, ha0⟩ : ∃ x, x = sLow S0 v a := ⟨_, rfl⟩
  obtain ⟨a1, ha1⟩ : ∃ x, x = sHigh S0 v a := ⟨_, rfl⟩
  obtain ⟨c0, hc0⟩ : ∃ x, x = sLow S0 v c := ⟨_, rfl⟩
  obtain ⟨c1, hc1⟩ : ∃ x, x = sHigh S0 v c := ⟨_, rfl⟩
  rw [← ha0, ← ha1] at HBA hsa
  rw [← hc0, ← hc1] at HBC hsc
  have HSA := Lib.hid hsa; have HSC := Lib.hid hsc
  have HIH := Lib.hid ih; have HQ := Lib.hid hq; have HS := Lib.hid h; have HO := Lib.hid ho; have HE := Lib.hid he; have HZ := Lib.hid hz; have HMO := Lib.hid hmo; have HW0 := Lib.hid hW0
  have HVV := Lib.hid hvv
  have HFF : Hid (S0.vars ≤ v + (f + 1)) := Lib.hid (by omega)
  have HLO : Hid (lo < S0.l.length) := Lib.hid (by omega)
  have HHI : Hid (hi < S0.l.length) := Lib.hid (by omega)
  have HLL := Lib.hid hL; have HBb := Lib.hid hBb; have HGB := Lib.hid hgb; have HBW := Lib.hid hB
  have HPR : Hid (∀ ρ, prT S0 (inS s) lo hi ρ = prT S0 (inS s) a c ρ) := Lib.hid fun ρ => by
    rcases Nat.le_total a c with hle | hle
    · rw [show lo = a by omega, show hi = c by omega]
    · rw [show lo = c by omega, show hi = a by omega]; exact prT_comm _ _ _ ρ
  have FL : Hid (From (prT S0 (inS s) a0 c0) (v + 1)) := Lib.hid ((prT_from hW0 _ hsa.ilo hsc.ilo).mono (by have := hsa.vlo; have := hsc.vlo; omega))
  have FH : Hid (From (prT S0 (inS s) a1 c1) (v + 1)) := Lib.hid ((prT_from hW0 _ hsa.ihi hsc.ihi).mono (by have := hsa.vhi; have := hsc.vhi; omega))
  obtain ⟨va, hva⟩ : ∃ x, x = (nd S0.l a).v := ⟨_, rfl⟩
  obtain ⟨vc, hvc⟩ : ∃ x, x = (nd S0.l c).v := ⟨_, rfl⟩
  rw [← hva] at HAV e6
  rw [← hvc] at HCV e6
  have HCS : Hid (∀ W, Below w.heap.size w W → W.cell? ⟨qn, 1, none⟩ = some (.pointer (some ⟨p, 0, none⟩)) ∧ qn < W.heap.size) := Lib.hid fun W hb => ⟨(hq.below hb hq.lt).cell 1, (hq.below hb hq.lt).lt⟩
  have d1q : w.cell? ⟨qn, 1, none⟩ = some (.pointer (some ⟨p, 0, none⟩)) := hq.cell 1
  have ld := hq.lt
  clear hat his hM hF hFx hx hq h ho hB he hz hmo ha hc hac fa fc hlo hhi hv hvv hvS hsa hsc hva hvc ha0 ha1 hc0 hc1 hal hcl hL hw1 hbl1 hbx1 hsz1 hv256 hBb hgb hW0 ih
  rcases e2 with e2 | ⟨e2, e3⟩
  all_goals
    go_enter Try.func82, Try.ntmps82
    go_wp2_with (at_lookup; refine wpList_mlook_ok rfl (.tmp 52) (.tmp 53) 125 rfl 3 arr2_keyed Try.underlying125 (zeroI _) rfl (HM.out.below ((Below.refl _ _).alloc (Nat.le_refl _) _)) _ _ rfl HKEY.out ?_; rw [HAT.out, HIS.out])
    rw [← H1.out]
    refine HA.out.mono ?_
    rintro e w2 ⟨rfl, n1, hw2⟩
    rw [HAV.out]
    have hb2 : Below w.heap.size w w2 := by rw [hw2]; exact HB1.out.trans ((bdN' _ _).mono HB1.out.size)
    have hx2 : Blk w2 w.heap.size 158 #[.int .i64 (lo : Int), .int .i64 (hi : Int)] := by rw [hw2]; exact HX1.out.below (bdN' _ _) HX1.out.lt
    have HB2 := Lib.hid hb2; have HX2 := Lib.hid hx2
    clear hw2 hb2 hx2
    obtain ⟨d2, l2⟩ := HCS.out w2 HB2.out
    go_wp2_with fail
    refine (HC.out w2 HB2.out).mono ?_
    rintro e w3 ⟨rfl, n2, hw3⟩
    rw [HCV.out]
    have hb3 : Below w.heap.size w w3 := by rw [hw3]; exact HB2.out.trans ((bdN' _ _).mono HB2.out.size)
    have hx3 : Blk w3 w.heap.size 158 #[.int .i64 (lo : Int), .int .i64 (hi : Int)] := by rw [hw3]; exact HX2.out.below (bdN' _ _) HX2.out.lt
    have HB3 := Lib.hid hb3; have HX3 := Lib.hid hx3
    clear hw3 hb3 hx3 d2 l2
    go_wp2_with fail
    refine (HBA.out w3 HB3.out).mono ?_
    rintro e w4 ⟨rfl, n3, hw4⟩
    have hb4 : Below w.heap.size w w4 := by rw [hw4]; exact HB3.out.trans ((bdN' _ _).mono HB3.out.size)
    have hx4 : Blk w4 w.heap.size 158 #[.int .i64 (lo : Int), .int .i64 (hi : Int)] := by rw [hw4]; exact HX3.out.below (bdN' _ _) HX3.out.lt
    have HB4 := Lib.hid hb4; have HX4 := Lib.hid hx4
    clear hw4 hb4 hx4
    go_wp2_with fail
    refine (HBC.out w4 HB4.out).mono ?_
    rintro e w5 ⟨rfl, n4, hw5⟩
    have hb5 : Below w.heap.size w w5 := by rw [hw5]; exact HB4.out.trans ((bdN' _ _).mono HB4.out.size)
    have hx5 : Blk w5 w.heap.size 158 #[.int .i64 (lo : Int), .int .i64 (hi : Int)] := by rw [hw5]; exact HX4.out.below (bdN' _ _) HX4.out.lt
    have HB5 := Lib.hid hb5; have HX5 := Lib.hid hx5
    clear hw5 hb5 hx5
    have HIM5 := Lib.hid (HPL.out.below HB5.out).is
    go_wp2_with fail
    refine (HIH.out w5 S a0 c0 m (HQ.out.below HB5.out HQ.out.lt) (HS.out.below HB5.out) (HO.out.below HB5.out) (Nat.le_trans HBW.out HB5.out.size) HE.out (MapAt.below HZ.out HB5.out) (HPL.out.below HB5.out) HMO.out HSA.out.ilo HSC.out.ilo (by have := HFF.out; have := HSA.out.vlo; omega) (by have := HFF.out; have := HSC.out.vlo; omega)).mono ?_
    rintro e w6 ⟨S6, m6, hs6, ho6, hm6, hmo6, hk6, hr⟩
    have HX6 := Lib.hid (hk6.blk HIM5.out HX5.out rfl)
    have HS6 := Lib.hid hs6; have HO6 := Lib.hid ho6; have HM6 := Lib.hid hm6; have HMO6 := Lib.hid hmo6; have HK6 := Lib.hid ((Km.of_below HB5.out).trans hk6)
    clear hs6 ho6 hm6 hmo6 hk6
    rcases hr with ⟨k1, rfl, hg⟩ | ⟨rfl, hg⟩
    · have HG6 := Lib.hid hg
      clear hg
      have HE6 := Lib.hid (HE.out.trans HG6.out.ext)
      have HZ6 := Lib.hid (HZ.out.km HGB.out HK6.out)
      have HQ6 := Lib.hid (HK6.out.blk HPL.out.is HQ.out rfl)
      have HB6 := Lib.hid (Nat.le_trans HBW.out HK6.out.size)
      cases hsv : s (v : Int) with
      | true =>
        have hgt : atF (setZ s) (.int .i64 (v : Int)) (.bool false) = .bool true := by unfold atF; rw [setZ_at, hsv]; rfl
        have HGT := Lib.hid hgt
        have HSV : Hid (inS s v = true) := Lib.hid hsv
        clear hgt hsv
        by_cases hk1 : k1 = 1
        · have h1 : ((k1 : Int) != 1) = false := by rw [hk1]; rfl
          have HG7 : Hid (GotOk S (prT S0 (inS s) a c) (tot (fun f => 2 ^ f) (f + 1)) S6 k1) := Lib.hid ⟨HG6.out.wf, HG6.out.ext, HG6.out.den.cong fun ρ => by
              have h2 : prT S0 (inS s) a0 c0 ρ = true := by rw [← HG6.out.den.says ρ, hk1]; exact den_leaf _ _ (by decide)
              rw [prT_in HW0.out _ HSV.out HSA.out HSC.out, h2]; rfl, Nat.le_trans HG6.out.cnt (Nat.add_le_add_left (tot_le _ f) _), HG6.out.pin, HG6.out.sw⟩
          clear hk1
          have HPO := Lib.hid HMO6.out
          have g0 : w6.cell? ⟨w.heap.size, 0, none⟩ = some (.int .i64 (lo : Int)) := HX6.out.cell 0
          have g1 : w6.cell? ⟨w.heap.size, 1, none⟩ = some (.int .i64 (hi : Int)) := HX6.out.cell 1
          have gl := HX6.out.lt
          obtain ⟨F', hM, hF⟩ := HM6.out
          have HMF := Lib.hid hM; have HFF' := Lib.hid hF
          have HCL := Lib.hid (pm_lt (m := m6) HLL.out)
          have HNN := Lib.hid (pm_cnt (x := k1) HLO.out HHI.out (hF lo hi HLO.out HHI.out))
          have HPM := Lib.hid (HPO.out.upd HLO.out HHI.out (HG7.out.den.cong fun ρ => (HPR.out ρ).symm))
          clear hM hF
          go_wp2_with (first | (at_lookup; refine wpList_mlook rfl (.tmp 111) (.tmp 112) 118 rfl 4 (Maps.int_keyed Try.underlying3) Try.underlying118 (zeroB _) rfl HZ6.out _ _ rfl HKV.out ?_; rw [HGT.out]) | (at_mapUpdate; refine wpList_msetn rfl (.tmp 158) (.tmp 159) (.tmp 160) 125 rfl 3 arr2_keyed Try.underlying125 rfl HMF.out HCL.out _ (.int .i64 (k1 : Int)) _ rfl rfl HKEY.out _ HNN.out ?_))
          intro w9 hm9 hg9
          have HM9 := Lib.hid (PMap.set HLL.out HFF'.out HLO.out HHI.out hm9)
          have hkm : Km TO B b w6 w9 := Km.grown hg9
          have hkz : Kb (fun _ => false) w6 w9 := (Km.grown (T := fun _ => false) (B := 0) hg9).kb HM6.out.is
          have HS9 := Lib.hid (HS6.out.kb hkz rfl rfl rfl rfl rfl)
          have HO9 := Lib.hid (HO6.out.kb hkz rfl rfl)
          have HK9 := Lib.hid (HK6.out.trans hkm)
          clear hm9 hg9 hkm hkz g0 g1 gl
          go_wp2_with fail
          go_ret2
          exact ⟨S6, _, HS9.out, HO9.out, HM9.out, HPM.out, HK9.out, .inl ⟨k1, rfl, HG7.out⟩⟩
        · have h1 : ((k1 : Int) != 1) = true := by rw [bne_iff_ne]; omega
          clear hk1
          go_wp2_with (at_lookup; refine wpList_mlook rfl (.tmp 111) (.tmp 112) 118 rfl 4 (Maps.int_keyed Try.underlying3) Try.underlying118 (zeroB _) rfl HZ6.out _ _ rfl HKV.out ?_; rw [HGT.out])
          refine (HIH.out w6 S6 a1 c1 m6 HQ6.out HS6.out HO6.out HB6.out HE6.out HZ6.out HM6.out HMO6.out HSA.out.ihi HSC.out.ihi (by have := HFF.out; have := HSA.out.vhi; omega) (by have := HFF.out; have := HSC.out.vhi; omega)).mono ?_
          rintro e w7 ⟨S7, m7, hs7, ho7, hm7, hmo7, hk7, hr⟩
          have HX7 := Lib.hid (hk7.blk HM6.out.is HX6.out rfl)
          have HS7 := Lib.hid hs7; have HO7 := Lib.hid ho7; have HM7 := Lib.hid hm7; have HMO7 := Lib.hid hmo7; have HK7 := Lib.hid (HK6.out.trans hk7)
          clear hs7 ho7 hm7 hmo7 hk7
          rcases hr with ⟨k2, rfl, hg⟩ | ⟨rfl, hg⟩
          · have HG7 := Lib.hid hg
            clear hg
            have HE7 := Lib.hid (HE6.out.trans HG7.out.ext)
            have HZ7 := Lib.hid (HZ.out.km HGB.out HK7.out)
            have HQ7 := Lib.hid (HK7.out.blk HPL.out.is HQ.out rfl)
            have HB7 := Lib.hid (Nat.le_trans HBW.out HK7.out.size)
            have q0 : w7.cell? ⟨qn, 0, none⟩ = some (.pointer (some ⟨q, 0, none⟩)) := HQ7.out.cell 0
            have q1 : w7.cell? ⟨qn, 1, none⟩ = some (.pointer (some ⟨p, 0, none⟩)) := HQ7.out.cell 1
            have ql := HQ7.out.lt
            have HCA := Lib.hid (oorU_ok w7 B p q (v + 1) f S7 HS7.out HO7.out HB7.out k1 k2 _ _ (HG6.out.den.ext HG7.out.ext HG6.out.wf HG7.out.wf) HG7.out.den FL.out FH.out (by rw [HE7.out.vars]; exact HVV.out) (by rw [HE7.out.vars]; have := HFF.out; omega) (2 ^ f) (by omega))
            go_wp2_with (at_lookup; refine wpList_mlook rfl (.tmp 131) (.tmp 132) 118 rfl 4 (Maps.int_keyed Try.underlying3) Try.underlying118 (zeroB _) rfl HZ7.out _ _ rfl HKV.out ?_; rw [HGT.out])
            refine HCA.out.mono ?_
            rintro e w8 ⟨S8, hs8, ho8, hk8, hr⟩
            have HX8 := Lib.hid ((Km.of_kp (b := b) hk8).blk HM7.out.is HX7.out rfl)
            have HS8 := Lib.hid hs8; have HO8 := Lib.hid ho8; have HM8 := Lib.hid (HM7.out.kp hk8); have HK8 := Lib.hid (HK7.out.trans (Km.of_kp hk8))
            clear hs8 ho8 hk8 q0 q1 ql
            rcases hr with ⟨k3, rfl, hg⟩ | ⟨rfl, hg⟩
            · have HPO := Lib.hid (HMO7.out.ext hg.ext HG7.out.wf hg.wf)
              have HG8 : Hid (GotOk S (prT S0 (inS s) a c) (tot (fun f => 2 ^ f) (f + 1)) S8 k3) := Lib.hid ⟨hg.wf, (HG6.out.ext.trans HG7.out.ext).trans hg.ext, hg.den.cong fun ρ => (prT_in HW0.out _ HSV.out HSA.out HSC.out ρ).symm, tot_sum HG6.out.cnt HG7.out.cnt hg.cnt, fun j => Nat.le_trans (hg.pin j) (Nat.le_trans (HG7.out.pin j) (HG6.out.pin j)), hg.sw.trans (HG7.out.sw.trans HG6.out.sw)⟩
              clear hg
              have g0 : w8.cell? ⟨w.heap.size, 0, none⟩ = some (.int .i64 (lo : Int)) := HX8.out.cell 0
              have g1 : w8.cell? ⟨w.heap.size, 1, none⟩ = some (.int .i64 (hi : Int)) := HX8.out.cell 1
              have gl := HX8.out.lt
              obtain ⟨F', hM, hF⟩ := HM8.out
              have HMF := Lib.hid hM; have HFF' := Lib.hid hF
              have HCL := Lib.hid (pm_lt (m := m7) HLL.out)
              have HNN := Lib.hid (pm_cnt (x := k3) HLO.out HHI.out (hF lo hi HLO.out HHI.out))
              have HPM := Lib.hid (HPO.out.upd HLO.out HHI.out (HG8.out.den.cong fun ρ => (HPR.out ρ).symm))
              clear hM hF
              go_wp2_with (at_mapUpdate; refine wpList_msetn rfl (.tmp 158) (.tmp 159) (.tmp 160) 125 rfl 3 arr2_keyed Try.underlying125 rfl HMF.out HCL.out _ (.int .i64 (k3 : Int)) _ rfl rfl HKEY.out _ HNN.out ?_)
              intro w9 hm9 hg9
              have HM9 := Lib.hid (PMap.set HLL.out HFF'.out HLO.out HHI.out hm9)
              have hkm : Km TO B b w8 w9 := Km.grown hg9
              have hkz : Kb (fun _ => false) w8 w9 := (Km.grown (T := fun _ => false) (B := 0) hg9).kb HM8.out.is
              have HS9 := Lib.hid (HS8.out.kb hkz rfl rfl rfl rfl rfl)
              have HO9 := Lib.hid (HO8.out.kb hkz rfl rfl)
              have HK9 := Lib.hid (HK8.out.trans hkm)
              clear hm9 hg9 hkm hkz g0 g1 gl
              go_wp2_with fail
              go_ret2
              exact ⟨S8, _, HS9.out, HO9.out, HM9.out, HPM.out, HK9.out, .inl ⟨k3, rfl, HG8.out⟩⟩
            · have HG : Hid (GotNo S (tot (fun f => 2 ^ f) (f + 1)) S8) := Lib.hid ⟨hg.wf, (HG6.out.ext.trans HG7.out.ext).trans hg.ext, tot_room HG6.out.cnt HG7.out.cnt (by rw [← HG6.out.ext.budget, ← HG7.out.ext.budget]; exact hg.room) (Nat.le_refl _), fun j => Nat.le_trans (hg.pin j) (Nat.le_trans (HG7.out.pin j) (HG6.out.pin j)), hg.sw.trans (HG7.out.sw.trans HG6.out.sw)⟩
              have HPO := Lib.hid (HMO7.out.ext hg.ext HG7.out.wf hg.wf)
              clear hg
              go_wp2_with fail
              go_ret2
              exact ⟨S8, m7, HS8.out, HO8.out, HM8.out, HPO.out, HK8.out, .inr ⟨rfl, HG.out⟩⟩
          · have HG : Hid (GotNo S (tot (fun f => 2 ^ f) (f + 1)) S7) := Lib.hid ⟨hg.wf, HG6.out.ext.trans hg.ext, tot_room1 HG6.out.cnt (by rw [← HG6.out.ext.budget]; exact hg.room), fun j => Nat.le_trans (hg.pin j) (HG6.out.pin j), hg.sw.trans HG6.out.sw⟩
            clear hg
            go_wp2_with fail
            go_ret2
            exact ⟨S7, m7, HS7.out, HO7.out, HM7.out, HMO7.out, HK7.out, .inr ⟨rfl, HG.out⟩⟩
      | false =>
        have hgt : atF (setZ s) (.int .i64 (v : Int)) (.bool false) = .bool false := by unfold atF; rw [setZ_at, hsv]; rfl
        have HGT := Lib.hid hgt
        have HSV : Hid (inS s v = false) := Lib.hid hsv
        clear hgt hsv
        go_wp2_with (at_lookup; refine wpList_mlook rfl (.tmp 111) (.tmp 112) 118 rfl 4 (Maps.int_keyed Try.underlying3) Try.underlying118 (zeroB _) rfl HZ6.out _ _ rfl HKV.out ?_; rw [HGT.out])
        refine (HIH.out w6 S6 a1 c1 m6 HQ6.out HS6.out HO6.out HB6.out HE6.out HZ6.out HM6.out HMO6.out HSA.out.ihi HSC.out.ihi (by have := HFF.out; have := HSA.out.vhi; omega) (by have := HFF.out; have := HSC.out.vhi; omega)).mono ?_
        rintro e w7 ⟨S7, m7, hs7, ho7, hm7, hmo7, hk7, hr⟩
        have HX7 := Lib.hid (hk7.blk HM6.out.is HX6.out rfl)
        have HS7 := Lib.hid hs7; have HO7 := Lib.hid ho7; have HM7 := Lib.hid hm7; have HMO7 := Lib.hid hmo7; have HK7 := Lib.hid (HK6.out.trans hk7)
        clear hs7 ho7 hm7 hmo7 hk7
        rcases hr with ⟨k2, rfl, hg⟩ | ⟨rfl, hg⟩
        · have HG7 := Lib.hid hg
          clear hg
          have HE7 := Lib.hid (HE6.out.trans HG7.out.ext)
          have HZ7 := Lib.hid (HZ.out.km HGB.out HK7.out)
          have HQ7 := Lib.hid (HK7.out.blk HPL.out.is HQ.out rfl)
          have HB7 := Lib.hid (Nat.le_trans HBW.out HK7.out.size)
          have q0 : w7.cell? ⟨qn, 0, none⟩ = some (.pointer (some ⟨q, 0, none⟩)) := HQ7.out.cell 0
          have q1 : w7.cell? ⟨qn, 1, none⟩ = some (.pointer (some ⟨p, 0, none⟩)) := HQ7.out.cell 1
          have ql := HQ7.out.lt
          have HCA := Lib.hid (mk_step w7 B p q S7 HS7.out HO7.out HB7.out v k1 k2 _ _ (HG6.out.den.ext HG7.out.ext HG6.out.wf HG7.out.wf) HG7.out.den FL.out FH.out (by rw [HE7.out.vars]; exact HVV.out))
          go_wp2_with (at_lookup; refine wpList_mlook rfl (.tmp 131) (.tmp 132) 118 rfl 4 (Maps.int_keyed Try.underlying3) Try.underlying118 (zeroB _) rfl HZ7.out _ _ rfl HKV.out ?_; rw [HGT.out])
          refine HCA.out.mono ?_
          rintro e w8 ⟨S8, hs8, ho8, hk8, hr⟩
          have HX8 := Lib.hid ((Km.of_kp (b := b) hk8).blk HM7.out.is HX7.out rfl)
          have HS8 := Lib.hid hs8; have HO8 := Lib.hid ho8; have HM8 := Lib.hid (HM7.out.kp hk8); have HK8 := Lib.hid (HK7.out.trans (Km.of_kp hk8))
          clear hs8 ho8 hk8 q0 q1 ql
          rcases hr with ⟨k3, rfl, hg⟩ | ⟨rfl, hg⟩
          · have HPO := Lib.hid (HMO7.out.ext hg.ext HG7.out.wf hg.wf)
            have HG8 : Hid (GotOk S (prT S0 (inS s) a c) (tot (fun f => 2 ^ f) (f + 1)) S8 k3) := Lib.hid ⟨hg.wf, (HG6.out.ext.trans HG7.out.ext).trans hg.ext, hg.den.cong fun ρ => (prT_out _ HSV.out HSA.out HSC.out ρ).symm, tot_sum HG6.out.cnt HG7.out.cnt (Nat.le_trans hg.cnt (Nat.add_le_add_left (Nat.one_le_two_pow) _)), fun j => Nat.le_trans (hg.pin j) (Nat.le_trans (HG7.out.pin j) (HG6.out.pin j)), hg.sw.trans (HG7.out.sw.trans HG6.out.sw)⟩
            clear hg
            have g0 : w8.cell? ⟨w.heap.size, 0, none⟩ = some (.int .i64 (lo : Int)) := HX8.out.cell 0
            have g1 : w8.cell? ⟨w.heap.size, 1, none⟩ = some (.int .i64 (hi : Int)) := HX8.out.cell 1
            have gl := HX8.out.lt
            obtain ⟨F', hM, hF⟩ := HM8.out
            have HMF := Lib.hid hM; have HFF' := Lib.hid hF
            have HCL := Lib.hid (pm_lt (m := m7) HLL.out)
            have HNN := Lib.hid (pm_cnt (x := k3) HLO.out HHI.out (hF lo hi HLO.out HHI.out))
            have HPM := Lib.hid (HPO.out.upd HLO.out HHI.out (HG8.out.den.cong fun ρ => (HPR.out ρ).symm))
            clear hM hF
            go_wp2_with (at_mapUpdate; refine wpList_msetn rfl (.tmp 158) (.tmp 159) (.tmp 160) 125 rfl 3 arr2_keyed Try.underlying125 rfl HMF.out HCL.out _ (.int .i64 (k3 : Int)) _ rfl rfl HKEY.out _ HNN.out ?_)
            intro w9 hm9 hg9
            have HM9 := Lib.hid (PMap.set HLL.out HFF'.out HLO.out HHI.out hm9)
            have hkm : Km TO B b w8 w9 := Km.grown hg9
            have hkz : Kb (fun _ => false) w8 w9 := (Km.grown (T := fun _ => false) (B := 0) hg9).kb HM8.out.is
            have HS9 := Lib.hid (HS8.out.kb hkz rfl rfl rfl rfl rfl)
            have HO9 := Lib.hid (HO8.out.kb hkz rfl rfl)
            have HK9 := Lib.hid (HK8.out.trans hkm)
            clear hm9 hg9 hkm hkz g0 g1 gl
            go_wp2_with fail
            go_ret2
            exact ⟨S8, _, HS9.out, HO9.out, HM9.out, HPM.out, HK9.out, .inl ⟨k3, rfl, HG8.out⟩⟩
          · have HG : Hid (GotNo S (tot (fun f => 2 ^ f) (f + 1)) S8) := Lib.hid ⟨hg.wf, (HG6.out.ext.trans HG7.out.ext).trans hg.ext, tot_room HG6.out.cnt HG7.out.cnt (by rw [← HG6.out.ext.budget, ← HG7.out.ext.budget]; exact hg.room) (Nat.one_le_two_pow), fun j => Nat.le_trans (hg.pin j) (Nat.le_trans (HG7.out.pin j) (HG6.out.pin j)), hg.sw.trans (HG7.out.sw.trans HG6.out.sw)⟩
            have HPO := Lib.hid (HMO7.out.ext hg.ext HG7.out.wf hg.wf)
            clear hg
            go_wp2_with fail
            go_ret2
            exact ⟨S8, m7, HS8.out, HO8.out, HM8.out, HPO.out, HK8.out, .inr ⟨rfl, HG.out⟩⟩
        · have HG : Hid (GotNo S (tot (fun f => 2 ^ f) (f + 1)) S7) := Lib.hid ⟨hg.wf, HG6.out.ext.trans hg.ext, tot_room1 HG6.out.cnt (by rw [← HG6.out.ext.budget]; exact hg.room), fun j => Nat.le_trans (hg.pin j) (HG6.out.pin j), hg.sw.trans HG6.out.sw⟩
          clear hg
          go_wp2_with fail
          go_ret2
          exact ⟨S7, m7, HS7.out, HO7.out, HM7.out, HMO7.out, HK7.out, .inr ⟨rfl, HG.out⟩⟩
    · have HG : Hid (GotNo S (tot (fun f => 2 ^ f) (f + 1)) S6) := Lib.hid ⟨hg.wf, hg.ext, Nat.lt_of_lt_of_le hg.room (Nat.add_le_add_left (tot_le _ f) _), hg.pin, hg.sw⟩
      clear hg
      go_wp2_with fail
      go_ret2
      exact ⟨S6, m6, HS6.out, HO6.out, HM6.out, HMO6.out, HK6.out, .inr ⟨rfl, HG.out⟩⟩
end Go.Proofs.Ytffkehefkmdadaa
namespace Go.Proofs.Ytffkehefkmdadaa
open Go.RowKit HP NP
theorem prod_ok (B p q qn b g n : Nat) (S0 : NS) (hW0 : Wf S0) (hBb : B ≤ b) (hgb : g ≠ b) (s : Int → Bool) : ∀ f, ProdIH B p q qn b g n S0 s f := by
  have hL : S0.l.length ≤ 1048576 := by have := hW0.lm; omega
  intro f
  induction f with
  | zero =>
    intro w S a c m hq h ho hB he hz hm hmo ha hc fa fc
    have ha2 : a < 2 := by
      rcases Nat.lt_or_ge a 2 with h2 | h2
      · exact h2
      · have := (hW0.kid a h2 ha).1; omega
    have hc2 : c < 2 := by
      rcases Nat.lt_or_ge c 2 with h2 | h2
      · exact h2
      · have := (hW0.kid c h2 hc).1; omega
    exact prod_leaf B p q qn b g n 0 S0 s w S a c m hq h ho hz hm hmo (by omega)
  | succ f ih =>
    intro w S a c m hq h ho hB he hz hm hmo ha hc fa fc
    by_cases hac : (a = 0 ∨ c = 0) ∨ (a = 1 ∧ c = 1)
    · exact prod_leaf B p q qn b g n (f + 1) S0 s w S a c m hq h ho hz hm hmo hac
    · cases hx : m (min a c * S0.l.length + max a c) with
      | some x => exact prod_hit B p q qn b g n (f + 1) S0 hL s w S a c m hq h ho hz hm hmo hac (isB_lt ha) (isB_lt hc) _ _ x rfl rfl hx
      | none => exact prod_miss B p q qn b g n f S0 hW0 hBb hgb s ih w S a c m hq h ho hB he hz hm hmo ha hc hac fa fc _ _ rfl rfl hx
abbrev prW (w : World) (a b : Int) : World := w.alloc (.cells #[.int .i64 a, .int .i64 b] 3)
theorem prW_facts (w : World) (a b : Int) : Below w.heap.size w (prW w a b) ∧ (prW w a b).heap.size = w.heap.size + 1 ∧ Cells (prW w a b) (some ⟨w.heap.size, 0, none⟩) [.int .i64 a, .int .i64 b] := by
  have c1 := Cells.lit w #[.int .i64 a, .int .i64 b] 3
  exact ⟨(Below.refl _ _).alloc (Nat.le_refl _) _, by simp, c1⟩
theorem ProdPost.op {B p q b : Nat} {S : NS} {s : Nat → Bool} {f a c n : Nat} {w0 w : World} {e : Ending} {w' : World} (h : ProdPost B p q b S s f a c S w e w') (h0 : Below w0.heap.size w0 w) (hb : w0.heap.size ≤ b) (hn : tot (fun f => 2 ^ f) f ≤ n) : OpPost B p q S (prT S s a c) n w0 e w' := by
  obtain ⟨S', m', h1, h2, _, _, h5, h6⟩ := h
  have hk : Kp TO B w0 w' := by
    refine ⟨h5.os.trans h0.os, h5.tape.trans h0.tape, h5.output.trans h0.output, Nat.le_trans h0.size h5.size, fun i hi hn => ?_⟩
    have e0 := h0.block i hi
    refine (h5.block i (Nat.lt_of_lt_of_le hi h0.size) ?_).trans e0
    rintro (⟨a1, cs, t, f, a2, a3⟩ | a)
    · exact hn ⟨a1, cs, t, f, by rw [← e0]; exact a2, a3⟩
    · omega
  refine ⟨S', h1, h2, hk, ?_⟩
  rcases h6 with ⟨k, e1, hg⟩ | ⟨e1, hg⟩
  · exact .inl ⟨k, e1, hg.cong (fun _ => rfl) hn⟩
  · exact .inr ⟨e1, hg.mono hn⟩
set_option maxRecDepth 100000 in
set_option maxHeartbeats 1600000 in
theorem qprod_ok (w : World) (B p q qn : Nat) (S : NS) (hs : Sto w B p S) (ho : OpsM w B p q S) (hq : QuBlk w qn p q) (hB : B ≤ w.heap.size) (a b : Nat) (ha : isB S.l a = true) (hb : isB S.l b = true) (va : Option Addr) (vs : List Int) (c : Nat) (hvl : vs.length ≤ 256) (hv : Cells w va (vs.map fun k => .int .i64 k)) (hok : vs.all (vOk S) = true) (n : Nat) (hn : tot (fun f => 2 ^ f) S.vars ≤ n) :
    Calls Try.prog 48 #[.pointer (some ⟨qn, 0, none⟩), .int .i64 (a : Int), .int .i64 (b : Int), .slice va vs.length c] w (OpPost B p q S (prT S (inS (fun z => vs.reverse.contains z)) a b) n w) := by
  obtain ⟨hbl, hsz, ck⟩ := prW_facts w (a : Int) (b : Int)
  have hm0 : mayE S vs [(a : Int), (b : Int)] = 0 := mayE_ok hvl hok (by simp [isK_nat, ha, hb])
  have HM := Lib.hid (qmay_ok (prW w a b) B p q qn S (hs.below hbl) (hq.below hbl hq.lt) va _ vs [(a : Int), (b : Int)] c 2 (by omega) (by simp) (hv.below hbl) ck)
  rw [hm0] at HM
  have hwf : ∀ z ∈ vs, (Lit.int .i64 z).wf = true := fun z hz => by
    have := List.all_eq_true.1 hok z hz
    unfold vOk at this
    simp at this
    have h256 := hs.wf.v256
    rw [← IntWalk.wrap64_in z ⟨by omega, by omega⟩]; exact wrap64_wf _
  have HBL := Lib.hid hbl; have HS := Lib.hid hs; have HO := Lib.hid ho; have HQ := Lib.hid hq; have HKA := Lib.hid ha; have HKB := Lib.hid hb; have HN := Lib.hid hn; have HSZ := Lib.hid hsz; have HV := Lib.hid hv; have HWF := Lib.hid hwf
  have HBW := Lib.hid hB
  have hmk := @run_makeMap Try.prog
  have HSET := Lib.hid (fun (W : World) (hW : Below w.heap.size w W) => set_ok W va vs c (by omega) (HV.out.below hW) HWF.out)
  obtain ⟨N, hN⟩ : ∃ N, vs.length = N := ⟨_, rfl⟩
  rw [hN] at HM HSET ⊢
  obtain ⟨s, hss⟩ : ∃ s : Int → Bool, s = fun z => vs.reverse.contains z := ⟨_, rfl⟩
  rw [← hss] at HSET ⊢
  obtain ⟨dn, hdn⟩ : ∃ dn, dn = dcnt vs.reverse := ⟨_, rfl⟩
  rw [← hdn] at HSET
  clear hs ho hq hbl hsz ck ha hb hn hm0 hv hok hwf hN hvl hss hdn hB
  go_enter Try.func48, Try.ntmps48
  go_wp2_with fail
  refine HM.out.mono ?_
  rintro e w1 ⟨rfl, nd, hw1⟩
  have hb1 : Below w.heap.size w w1 := by rw [hw1]; exact HBL.out.trans ((bdN' _ _).mono (by simp))
  have HB := Lib.hid hb1
  clear hw1 hb1
  go_wp2_with fail
  refine (HSET.out w1 HB.out).mono ?_
  rintro e w2 ⟨b1, rfl, hb1, hz, hb2⟩
  have HZ := Lib.hid hz; have HBB := Lib.hid (HB.out.trans (hb2.mono HB.out.size)); have HB1 := Lib.hid hb1
  clear hz hb1 hb2
  have hal := (Below.refl w2.heap.size w2).alloc (Nat.le_refl _) (.map #[] 0)
  have HAL := Lib.hid (HBB.out.trans (hal.mono HBB.out.size))
  have HW := Lib.hid (prod_ok B p q qn w2.heap.size b1 dn S HS.out.wf (Nat.le_trans HBW.out HBB.out.size) (by have := MapAt.lt HZ.out; omega) s S.vars (w2.alloc (.map #[] 0)) S a b (fun _ => none) (HQ.out.below HAL.out HQ.out.lt) (HS.out.below HAL.out) (HO.out.below HAL.out) (Nat.le_trans HBW.out HAL.out.size) (Ext.refl _) (MapAt.below HZ.out hal) (PMap.new w2 _) (fun _ _ _ _ _ h => by cases h) HKA.out HKB.out (by omega) (by omega))
  clear hal
  go_wp2_with fail
  refine HW.out.mono ?_
  intro e w4 hr
  have HR := Lib.hid (hr.op (w0 := w) HAL.out HBB.out.size HN.out)
  obtain ⟨x, y, rfl⟩ := opRet HR.out
  clear hr
  go_wp2_with fail
  go_ret2
  exact HR.out
end Go.Proofs.Ytffkehefkmdadaa

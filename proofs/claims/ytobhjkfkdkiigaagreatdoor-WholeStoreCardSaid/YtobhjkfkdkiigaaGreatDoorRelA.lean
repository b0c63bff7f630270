/- Layer 9: a space of relations in memory; what a node asks as bits (OkMask); arithmetic of masks. 
 Layer 9: asked. 
 Layer 9: the state of a space (Rl); within. 
 Layer 9: names. -/
import Derived.Test.YtobhjkfkdkiigaaGreatDoorCodeE
import Derived.StillTailTactics
namespace Go.Proofs.YtobhjkfkdkiigaaGreatDoor
open Go.RowKit HP NP LY
/-! ### masks -/
theorem or_u64 {x y : Nat} (hx : x < 256) (hy : y < 256) : bits .or .u64 (x : Int) (y : Int) = ((x ||| y : Nat) : Int) ∧ x ||| y < 256 := by
  have hlt : x ||| y < 256 := Nat.or_lt_two_pow (n := 8) hx hy
  refine ⟨?_, hlt⟩
  show IntKind.u64.wrap ((BitVec.ofInt 64 (x : Int) ||| BitVec.ofInt 64 (y : Int)).toNat : Int) = _
  rw [BitVec.toNat_or, BitVec.ofInt_natCast, BitVec.ofInt_natCast, BitVec.toNat_ofNat, BitVec.toNat_ofNat, Nat.mod_eq_of_lt (a := x) (by omega), Nat.mod_eq_of_lt (a := y) (by omega)]
  simp [IntKind.wrap, IntKind.bits, IntKind.signed]
  omega
theorem andn_u64F : ∀ v : Fin 8, ∀ x : Fin 256, bits .andNot .u64 (x.val : Int) ((2 ^ v.val : Nat) : Int) = ((x.val &&& (255 - 2 ^ v.val) : Nat) : Int) := by decide +kernel
theorem notbitF : ∀ v : Fin 8, (255 - 2 ^ v.val).testBit v.val = false := by decide
theorem andn_u64 {x v : Nat} (hx : x < 256) (hv : v < 8) : bits .andNot .u64 (x : Int) ((2 ^ v : Nat) : Int) = ((x &&& (255 - 2 ^ v) : Nat) : Int) ∧ x &&& (255 - 2 ^ v) < 256 :=
  ⟨andn_u64F ⟨v, hv⟩ ⟨x, hx⟩, Nat.lt_of_le_of_lt Nat.and_le_left hx⟩
theorem andn_bit {x v i : Nat} (hv : v < 8) (h : (x &&& (255 - 2 ^ v)).testBit i = true) : x.testBit i = true ∧ i ≠ v := by
  rw [Nat.testBit_and, Bool.and_eq_true] at h
  refine ⟨h.1, ?_⟩
  rintro rfl
  rw [notbitF ⟨i, hv⟩] at h
  cases h.2
theorem pow_u64F : ∀ v : Fin 8, IntKind.u64.wrap ((2 : Int) ^ v.val) = ((2 ^ v.val : Nat) : Int) := by decide
theorem pow_lt {v : Nat} (hv : v < 8) : 2 ^ v < 256 := Nat.pow_lt_pow_right (by decide) hv
/-- x tells no variable that k does not ask -/
def OkMask (S : NS) (k x : Nat) : Prop := x < 256 ∧ ∀ v, x.testBit v = true → ∃ j, Rc S.l k j ∧ 2 ≤ j ∧ isB S.l j = true ∧ (nd S.l j).v = v
theorem OkMask.zero (S : NS) (k : Nat) : OkMask S k 0 := ⟨by decide, fun v h => by rw [Nat.zero_testBit] at h; cases h⟩
theorem OkMask.node {S : NS} {k x y : Nat} (h2 : 2 ≤ k) (hk : isB S.l k = true) (hv : (nd S.l k).v < 8) (hx : OkMask S (nd S.l k).low x) (hy : OkMask S (nd S.l k).high y) : OkMask S k ((x ||| y) ||| 2 ^ (nd S.l k).v) := by
  refine ⟨Nat.or_lt_two_pow (n := 8) (Nat.or_lt_two_pow (n := 8) hx.1 hy.1) (pow_lt hv), fun v h => ?_⟩
  rw [Nat.testBit_or, Nat.testBit_or, Bool.or_eq_true, Bool.or_eq_true] at h
  rcases h with (h | h) | h
  · obtain ⟨j, a, b, c⟩ := hx.2 v h; exact ⟨j, .low h2 a, b, c⟩
  · obtain ⟨j, a, b, c⟩ := hy.2 v h; exact ⟨j, .high h2 a, b, c⟩
  · rw [Nat.testBit_two_pow] at h
    exact ⟨k, .here k, h2, hk, by simpa using h⟩
theorem Rc.ext {S S' : NS} (he : Ext S S') (hW : Wf S) {k j : Nat} (h : Rc S.l k j) : NP.isB S.l k = true → Rc S'.l k j := by
  induction h with
  | here => exact fun _ => .here _
  | low h2 _ ih =>
    intro hk
    have := ih (hW.kid _ h2 hk).2.2.1
    refine .low h2 ?_
    rw [he.nds _ hk]; exact this
  | high h2 _ ih =>
    intro hk
    have := ih (hW.kid _ h2 hk).2.2.2.1
    refine .high h2 ?_
    rw [he.nds _ hk]; exact this
theorem OkMask.ext {S S' : NS} {k x : Nat} (h : OkMask S k x) (he : Ext S S') (hW : Wf S) (hk : isB S.l k = true) : OkMask S' k x :=
  ⟨h.1, fun v hv => by
    obtain ⟨j, a, b, c, d⟩ := h.2 v hv
    exact ⟨j, Rc.ext he hW a hk, b, he.isB c, by rw [he.nds _ c]; exact d⟩⟩
theorem NP.Dep.rc {S : NS} (hW : Wf S) {V : Nat → Bool} {k j : Nat} (h : Rc S.l k j) : NP.isB S.l k = true → Dep V (fun ρ => NP.den S.l ρ k) → Dep V (fun ρ => NP.den S.l ρ j) := by
  induction h with
  | here => exact fun _ h => h
  | low h2 _ ih => exact fun hk hd => ih (hW.kid _ h2 hk).2.2.1 (hd.kids hW h2 hk).1
  | high h2 _ ih => exact fun hk hd => ih (hW.kid _ h2 hk).2.2.2.1 (hd.kids hW h2 hk).2
theorem OkMask.dep {S : NS} (hW : Wf S) {V : Nat → Bool} {k x v : Nat} (h : OkMask S k x) (hk : isB S.l k = true) (hd : Dep V (fun ρ => den S.l ρ k)) (hv : x.testBit v = true) : V v = true := by
  obtain ⟨j, a, b, c, rfl⟩ := h.2 v hv
  exact (hd.rc hW a hk).top hW c (hW.kid j b c).1
/-! ### the map of what was asked -/
abbrev arrU (x : Nat) : Value := .agg #[.int .u64 (x : Int), .int .u64 0, .int .u64 0, .int .u64 0]
def askM (m : Nat → Option Nat) : Lit → Option Value
  | .int .i64 z => if decide (0 ≤ z) then (m z.toNat).map arrU else none
  | _ => none
theorem askM_at (m : Nat → Option Nat) (k : Nat) : askM m (.int .i64 (k : Int)) = (m k).map arrU := by
  show (if decide ((0 : Int) ≤ (k : Int)) then (m (k : Int).toNat).map arrU else none) = _
  rw [decide_eq_true (by omega), if_pos rfl, Int.toNat_natCast]
theorem askM_set (m : Nat → Option Nat) (k n : Nat) : setF (askM m) (.int .i64 (k : Int)) (arrU n) = askM (updM m k n) := by
  funext l
  unfold setF
  by_cases e : l = .int .i64 (k : Int)
  · subst e
    simp [askM, updM, Lit.sameKey]
  · rw [Maps.sameKey_ne e]
    simp only [Bool.false_eq_true, if_false]
    cases l with
    | int kd z =>
      cases kd
      case i64 =>
        simp only [askM]
        by_cases hz : 0 ≤ z
        · have : z.toNat ≠ k := by rintro rfl; exact e (by rw [Int.toNat_of_nonneg hz])
          simp [updM, this]
        · simp [hz]
      all_goals rfl
    | _ => rfl
theorem askM_none : askM (fun _ => none) = fun _ => none := by
  funext l
  cases l with
  | int kd z => cases kd <;> simp [askM]
  | _ => rfl
structure AskAt (w : World) (mb : Nat) (S : NS) (m : Nat → Option Nat) : Prop where
  map : ∃ n, n ≤ cntS (fun k => (m k).isSome) 1048576 ∧ MapAt w Tryz.prog 3 mb n (askM m)
  ok : ∀ k x, m k = some x → isB S.l k = true ∧ OkMask S k x
theorem AskAt.new (w : World) (S : NS) : AskAt (w.alloc (.map #[] 0)) w.heap.size S (fun _ => none) := ⟨⟨0, Nat.zero_le _, by rw [askM_none]; exact MapAt.made _ _ _⟩, fun _ _ h => by cases h⟩
theorem AskAt.ext {w : World} {mb : Nat} {S S' : NS} {m : Nat → Option Nat} (h : AskAt w mb S m) (he : Ext S S') (hW : Wf S) : AskAt w mb S' m := ⟨h.map, fun k x hk => ⟨he.isB (h.ok k x hk).1, (h.ok k x hk).2.ext he hW (h.ok k x hk).1⟩⟩
theorem AskAt.below {w w' : World} {mb : Nat} {S : NS} {m : Nat → Option Nat} (h : AskAt w mb S m) (hb : Below w.heap.size w w') : AskAt w' mb S m := ⟨by obtain ⟨n, h1, h2⟩ := h.map; exact ⟨n, h1, MapAt.below h2 hb⟩, h.ok⟩
theorem AskAt.kp {T : TypeId → Bool} {B : Nat} {w w' : World} {mb : Nat} {S : NS} {m : Nat → Option Nat} (h : AskAt w mb S m) (hk : Kp T B w w') : AskAt w' mb S m := ⟨by obtain ⟨n, h1, h2⟩ := h.map; exact ⟨n, h1, MapAt.kp h2 hk⟩, h.ok⟩
theorem AskAt.is {w : World} {mb : Nat} {S : NS} {m : Nat → Option Nat} (h : AskAt w mb S m) : IsMap w mb := by obtain ⟨n, _, h⟩ := h.map; exact MapAt.block h
theorem AskAt.lt {w : World} {mb : Nat} {S : NS} {m : Nat → Option Nat} (h : AskAt w mb S m) : mb < w.heap.size := by obtain ⟨n, _, h⟩ := h.map; exact MapAt.lt h
theorem cnt_updA {m : Nat → Option Nat} {k n c : Nat} (hk : k < 1048576) (hc : c ≤ cntS (fun j => (m j).isSome) 1048576) : (if (askM m (.int .i64 (k : Int))).isSome then c else c + 1) ≤ cntS (fun j => (updM m k n j).isSome) 1048576 := by
  rw [askM_at]
  cases hm : m k with
  | none => rw [cnt_updM hk hm]; show c + 1 ≤ _; omega
  | some x =>
    show c ≤ _
    refine Nat.le_trans hc (Nat.le_of_eq (cntS_congr _ fun j => ?_))
    unfold updM
    by_cases e : j = k
    · subst e; simp [hm]
    · simp [e]
abbrev zarr : Array Value := #[.int .u64 0, .int .u64 0, .int .u64 0, .int .u64 0]
theorem zeroA (w : World) : (zeroValue 164).run Tryz.prog w = .ok (.agg #[.int .u64 0, .int .u64 0, .int .u64 0, .int .u64 0]) w := by kernel_rfl
/-- an update that is run ahead of the region where it stands -/
theorem MapAt.run_set {w : World} {P : Program} {k t e : TypeId} {b n : Nat} {F : Lit → Option Value} (h : MapAt w P k b n F) (K : Maps.Keyed P k) (ht : P.underlying t = some (.map k e)) (hn : n < maxLen) {key val : Value} {kl : Lit} (hkey : keyOf P k key = some kl) :
    ∃ w', (Instr.mapUpdate t (.map (some b)) key val).run P w = .ok () w' ∧ MapAt w' P k b (if (F kl).isSome then n else n + 1) (setF F kl val) ∧ w.grownBy w' (some b) := by
  obtain ⟨D, hown, hs, hvw⟩ := h
  obtain ⟨w', hrun, r1, r2⟩ := hown.update K ht hn hkey (d := .held val) (ps := []) rfl
  have hsz : Maps.size (D.put kl (.held val)) = if (F kl).isSome then n else n + 1 := by
    rw [Maps.size_put (hown.tidy K), (hvw kl).1, hs]
  refine ⟨w', hrun, ⟨D.put kl (.held val), ?_, hsz, fun l => ?_⟩, r2⟩
  · obtain ⟨es, c, hb, hF, hle, hD⟩ := r1
    refine ⟨es, c, hb, hF, ?_, hD⟩
    rw [← hsz, hD, Maps.size_eq]
    simp [length_sorted]
  · have hkl := K.key hkey
    unfold setF atF
    by_cases e : l = kl
    · subst e
      rw [Maps.has_put_same hown.isMap hkl]
      simp [Maps.atKey_put_same hown.isMap hkl, sameKey_self hkl]
    · rw [Maps.has_put_other e, (hvw l).1]
      simp only [Maps.sameKey_ne e, Bool.false_eq_true, if_false]
      exact ⟨trivial, fun z => by rw [Maps.atKey_put_other e, (hvw l).2 z]; rfl⟩
theorem AskAt.put {w : World} {mb : Nat} {S : NS} {m : Nat → Option Nat} (h : AskAt w mb S m) {k n : Nat} (hk : isB S.l k = true) (hkl : k < 1048576) (hn : OkMask S k n) :
    ∃ w', (Instr.mapUpdate 95 (.map (some mb)) (.int .i64 (k : Int)) (arrU n)).run Tryz.prog w = .ok () w' ∧ AskAt w' mb S (updM m k n) ∧ w.grownBy w' (some mb) := by
  obtain ⟨c, hc, hm⟩ := h.map
  have hcm : c < maxLen := by have := cntS_le (fun j => (m j).isSome) 1048576; unfold maxLen; omega
  obtain ⟨w', hrun, hm', hg⟩ := hm.run_set (t := 95) (e := 164) (Maps.int_keyed Tryz.underlying3) Tryz.underlying95 hcm (val := arrU n) (keyI k (by omega))
  refine ⟨w', hrun, ⟨⟨_, cnt_updA hkl hc, by rw [← askM_set]; exact hm'⟩, fun j x hj => ?_⟩, hg⟩
  unfold updM at hj
  split at hj
  · rename_i e
    injection hj with hj
    rw [e, ← hj]; exact ⟨hk, hn⟩
  · exact h.ok j x hj
/-! ### arrays of four words -/
theorem run_eq_arr4 {P : Program} {T E : TypeId} {i : TypeInfo} (hT : P.underlying T = some (.array 4 E)) (hE : P.underlying E = some (.int .u64)) (hi : P.info? E = some i) (hs : i.size = 1)
    (a b c d a' b' c' d' : Int) (w : World) :
    (Op.equalIn 10000 T (.agg #[.int .u64 a, .int .u64 b, .int .u64 c, .int .u64 d]) (.agg #[.int .u64 a', .int .u64 b', .int .u64 c', .int .u64 d'])).run P w = .ok (a == a' && (b == b' && (c == c' && d == d'))) w := by
  have h : ∀ x y w, (Op.equalIn 9999 E (.int .u64 x) (.int .u64 y)).run P w = .ok (x == y) w := fun x y w => run_equalIn_int w 9998 E .u64 .u64 x y hE
  have hp : ∀ (cs : Array Value) (off : Nat) (v : Value), cs[off]? = some v → ∀ w, (part E cs off).run P w = .ok v w := fun cs off v hv w => by simp [part, isAgg, run_underlying hE, hv]
  have p0 : ∀ (u v x y : Value) w, (part E #[u, v, x, y] 0).run P w = .ok u w := fun u v x y w => hp _ _ _ rfl w
  have p1 : ∀ (u v x y : Value) w, (part E #[u, v, x, y] 1).run P w = .ok v w := fun u v x y w => hp _ _ _ rfl w
  have p2 : ∀ (u v x y : Value) w, (part E #[u, v, x, y] 2).run P w = .ok x w := fun u v x y w => hp _ _ _ rfl w
  have p3 : ∀ (u v x y : Value) w, (part E #[u, v, x, y] 3).run P w = .ok y w := fun u v x y w => hp _ _ _ rfl w
  rw [Op.equalIn]
  simp [run_underlying hT, sizeOf, typeInfo, hi, hs, Std.Legacy.Range.forIn_eq_forIn_range', List.range', h, p0, p1, p2, p3]
  by_cases e1 : a = a' <;> by_cases e2 : b = b' <;> by_cases e3 : c = c' <;> by_cases e4 : d = d' <;> simp [e1, e2, e3, e4]
theorem word_info : (Tryz.prog.info? 162).map (fun i => (i.zero, i.size, i.bytes)) = some (some (.int .u64 0), 1, 8) := by kernel_rfl
theorem eq_arr4 (a b c d a' b' c' d' : Int) (w : World) : (Op.equalIn 10000 164 (.agg #[.int .u64 a, .int .u64 b, .int .u64 c, .int .u64 d]) (.agg #[.int .u64 a', .int .u64 b', .int .u64 c', .int .u64 d'])).run Tryz.prog w = .ok (a == a' && (b == b' && (c == c' && d == d'))) w := by
  obtain ⟨i, hi, _, h1, _⟩ := info_parts word_info
  exact run_eq_arr4 Tryz.underlying164 Tryz.underlying162 hi h1 a b c d a' b' c' d' w
theorem guard_arr4 (x y : Operand) (xs ys : Array Value) (w : World) : (eqGuard .neq 164 x y (.agg xs) (.agg ys)).run Tryz.prog w = .ok () w := run_eqGuard_agg w .neq _ x y xs ys (by kernel_rfl)
end Go.Proofs.YtobhjkfkdkiigaaGreatDoor

namespace Go.Proofs.YtobhjkfkdkiigaaGreatDoor
open Go.RowKit HP NP LY
abbrev SpBlk (w : World) (xb cb qn : Nat) (sa : Option Addr) (sc : Nat) (ma : Option Nat) (swp : Int) : Prop := Blk w xb 97 #[.pointer (some ⟨cb, 0, none⟩), .pointer (some ⟨qn, 0, none⟩), .slice sa 4 sc, .map ma, .int .i64 swp]
def AskedPost (S : NS) (k mb : Nat) (w : World) (e : Ending) (w' : World) : Prop := ∃ x m', e = .returned (arrU x) ∧ OkMask S k x ∧ AskAt w' mb S m' ∧ Km (fun _ => false) 0 mb w w'
abbrev Kz (mb : Nat) (w w' : World) : Prop := Km (fun _ => false) 0 mb w w'
theorem Kz.sto {mb : Nat} {w w' : World} {B p : Nat} {S : NS} (hk : Kz mb w w') (hm : IsMap w mb) (h : Sto w B p S) : Sto w' B p S := h.kb (Km.kb hk hm) rfl rfl rfl rfl rfl
theorem Kz.ops {mb : Nat} {w w' : World} {B p q : Nat} {S : NS} (hk : Kz mb w w') (hm : IsMap w mb) (h : OpsM w B p q S) : OpsM w' B p q S := h.kb (Km.kb hk hm) rfl rfl
theorem results_cell1 {fn : Func} {p : Tmp} {ty : TypeId} (h : fn.results = #[.cell p ty]) (tmps : Array Value) (P : Program) (w : World) : (results fn tmps).run P w = ((asAddr (tmps.getD p undef)).run P w).andThen fun a w₁ => (loadVar ty a).run P w₁ := by
  simp only [results, h]
  simp [Sem.run_bind, Result.andThen]
set_option maxRecDepth 100000 in
set_option maxHeartbeats 6400000 in
theorem asked_ok (B p q qn cb xb mb : Nat) (sa : Option Addr) (sc : Nat) (swp : Int) (S : NS) (h8 : S.vars = 8) : ∀ (f : Nat) (w : World) (k : Nat) (m : Nat → Option Nat), Sto w B p S → OpsM w B p q S → QuBlk w qn p q → SpBlk w xb cb qn sa sc (some mb) swp → AskAt w mb S m → isB S.l k = true → S.vars - (nd S.l k).v < f →
    Calls Tryz.prog 83 #[.pointer (some ⟨xb, 0, none⟩), .int .i64 (k : Int)] w (AskedPost S k mb w) := by
  intro f
  induction f with
  | zero => intro w k m _ _ _ _ _ _ hf; omega
  | succ f ih =>
    intro w k m hs ho hq hx ha hk hf
    have IH := Lib.hid ih
    have HS := Lib.hid hs; have HO := Lib.hid ho; have HQ := Lib.hid hq; have HX := Lib.hid hx; have HA := Lib.hid ha; have HK := Lib.hid hk; have HF := Lib.hid hf
    have hks := isB_small hs.wf hk
    obtain ⟨n, _, hmap⟩ := ha.map
    have HM := Lib.hid hmap
    have HKEY := Lib.hid (keyI k (by omega))
    have c3 : w.cell? ⟨xb, 3, none⟩ = some (.map (some mb)) := hx.cell 3
    have c1 : w.cell? ⟨xb, 1, none⟩ = some (.pointer (some ⟨qn, 0, none⟩)) := hx.cell 1
    have xl := hx.lt
    have HKS := Lib.hid hks
    clear ih hs ho hq hx ha hk hf hmap hks
    cases hmk : m k with
    | some x =>
      have hat : atF (askM m) (.int .i64 (k : Int)) (.agg #[.int .u64 0, .int .u64 0, .int .u64 0, .int .u64 0]) = arrU x := by unfold atF; rw [askM_at, hmk]; rfl
      have his : (askM m (.int .i64 (k : Int))).isSome = true := by rw [askM_at, hmk]; rfl
      have HAT := Lib.hid hat; have HIS := Lib.hid his; have HOK := Lib.hid (HA.out.ok k x hmk)
      clear hat his hmk
      go_enter Tryz.func83, Tryz.ntmps83
      go_wp2_with (at_lookup; refine wpList_mlook_ok rfl (.tmp 18) (.tmp 19) 95 rfl 164 (Maps.int_keyed Tryz.underlying3) Tryz.underlying95 (zeroA _) rfl (MapAt.below HM.out ((Below.refl _ _).alloc (Nat.le_refl _) _)) _ _ rfl HKEY.out ?_; rw [HAT.out, HIS.out])
      refine bodyPost_ret (v := arrU x) ?_ rfl ?_
      · rw [results_cell1 rfl]; go_simp
      · have hb : Below w.heap.size w ((w.alloc (.cells (#[.int .u64 (x : Int), .int .u64 0, .int .u64 0, .int .u64 0]) 164)).alloc (.cells (#[.int .u64 (x : Int), .int .u64 0, .int .u64 0, .int .u64 0]) 164)) := ((Below.refl _ _).alloc (Nat.le_refl _) _).alloc (by simp) _
        exact ⟨x, m, rfl, HOK.out.2, HA.out.below hb, Km.of_below hb⟩
    | none =>
      have hat : atF (askM m) (.int .i64 (k : Int)) (.agg #[.int .u64 0, .int .u64 0, .int .u64 0, .int .u64 0]) = .agg #[.int .u64 0, .int .u64 0, .int .u64 0, .int .u64 0] := by unfold atF; rw [askM_at, hmk]; rfl
      have his : (askM m (.int .i64 (k : Int))).isSome = false := by rw [askM_at, hmk]; rfl
      have HAT := Lib.hid hat; have HIS := Lib.hid his; have HMK := Lib.hid hmk
      clear hat his hmk
      by_cases hk2 : k < 2
      · have hkl : decide (((k : Nat) : Int) < 2) = true := decide_eq_true (by omega)
        clear hk2
        go_enter Tryz.func83, Tryz.ntmps83
        go_wp2_with (at_lookup; refine wpList_mlook_ok rfl (.tmp 18) (.tmp 19) 95 rfl 164 (Maps.int_keyed Tryz.underlying3) Tryz.underlying95 (zeroA _) rfl (MapAt.below HM.out ((Below.refl _ _).alloc (Nat.le_refl _) _)) _ _ rfl HKEY.out ?_; rw [HAT.out, HIS.out])
        refine bodyPost_ret (v := arrU 0) ?_ rfl ?_
        · rw [results_cell1 rfl]; go_simp
        · have hb : Below w.heap.size w ((w.alloc (.cells (#[.int .u64 0, .int .u64 0, .int .u64 0, .int .u64 0]) 164)).alloc (.cells (#[.int .u64 0, .int .u64 0, .int .u64 0, .int .u64 0]) 164)) := ((Below.refl _ _).alloc (Nat.le_refl _) _).alloc (by simp) _
          exact ⟨0, m, rfl, OkMask.zero _ _, HA.out.below hb, Km.of_below hb⟩
      · have hkl : decide (((k : Nat) : Int) < 2) = false := decide_eq_false (by omega)
        have HK2 := Lib.hid (show 2 ≤ k by omega)
        clear hk2
        go_enter Tryz.func83, Tryz.ntmps83
        go_wp2_with (at_lookup; refine wpList_mlook_ok rfl (.tmp 18) (.tmp 19) 95 rfl 164 (Maps.int_keyed Tryz.underlying3) Tryz.underlying95 (zeroA _) rfl (MapAt.below HM.out ((Below.refl _ _).alloc (Nat.le_refl _) _)) _ _ rfl HKEY.out ?_; rw [HAT.out, HIS.out])
        have hb0 : Below w.heap.size w ((w.alloc (.cells (#[.int .u64 0, .int .u64 0, .int .u64 0, .int .u64 0]) 164)).alloc (.cells (#[.int .u64 0, .int .u64 0, .int .u64 0, .int .u64 0]) 164)) := ((Below.refl _ _).alloc (Nat.le_refl _) _).alloc (by simp) _
        have hrb : Blk ((w.alloc (.cells (#[.int .u64 0, .int .u64 0, .int .u64 0, .int .u64 0]) 164)).alloc (.cells (#[.int .u64 0, .int .u64 0, .int .u64 0, .int .u64 0]) 164)) w.heap.size 164 zarr := (Blk.new_ _ _ _).alloc_ _
        generalize ((w.alloc (.cells (#[.int .u64 0, .int .u64 0, .int .u64 0, .int .u64 0]) 164)).alloc (.cells (#[.int .u64 0, .int .u64 0, .int .u64 0, .int .u64 0]) 164)) = w2 at hb0 hrb ⊢
        have HRB := Lib.hid hrb
        clear hrb
        have HKID := Lib.hid (HS.out.wf.kid k HK2.out HK.out)
        have HASK := Lib.hid (show askV S (k : Int) = .tuple #[.int .i64 ((nd S.l k).v : Int), .int .i64 ((nd S.l k).low : Int), .int .i64 ((nd S.l k).high : Int), .int .i64 0] by
          unfold askV; rw [if_pos (by rw [isK_nat]; exact HK.out)]; simp only [Int.toNat_natCast])
        have HB0 := Lib.hid hb0
        clear hb0
        refine (qops_ok w2 qn p q (HQ.out.below HB0.out HQ.out.lt)).mono ?_
        rintro e w3 ⟨rfl, rfl⟩
        go_wp2_with fail
        refine (ostore_ok w2 B p q S (HO.out.below HB0.out)).mono ?_
        rintro e w3 ⟨rfl, rfl⟩
        go_wp2_with fail
        refine (nask_ok w2 B p S (HS.out.below HB0.out) k).mono ?_
        rintro e w3 ⟨rfl, n, rfl⟩
        rw [HASK.out]
        go_wp2_with fail
        have hb1 : Below w.heap.size w (w2.drewN n) := HB0.out.trans ((bdN' w2 n).mono HB0.out.size)
        have HRB1 : Hid (Blk (w2.drewN n) w.heap.size 164 zarr) := Lib.hid (HRB.out.drewN_ n)
        generalize w2.drewN n = w3 at hb1 HRB1 ⊢
        obtain ⟨v, hv⟩ : ∃ v, v = (nd S.l k).v := ⟨_, rfl⟩
        obtain ⟨lo, hlo⟩ : ∃ lo, lo = (nd S.l k).low := ⟨_, rfl⟩
        obtain ⟨hi, hhi⟩ : ∃ hi, hi = (nd S.l k).high := ⟨_, rfl⟩
        rw [← hv, ← hlo, ← hhi] at HKID
        rw [← hv, ← hlo, ← hhi]
        rw [← hv] at HF
        have HB1 := Lib.hid hb1; have HV := Lib.hid hv; have HLO := Lib.hid hlo; have HHI := Lib.hid hhi
        have HK1 : Hid (Kz mb w w3) := Lib.hid (Km.of_below hb1)
        have HIM : Hid (IsMap w mb) := Lib.hid HA.out.is
        clear hb1 hv hlo hhi HASK HRB
        go_wp2_with fail
        refine (IH.out w3 lo m (HK1.out.sto HIM.out HS.out) (HK1.out.ops HIM.out HO.out) (HK1.out.blk HIM.out HQ.out rfl) (HK1.out.blk HIM.out HX.out rfl) (HA.out.below HB1.out) HKID.out.2.2.1 (by have h1 := HF.out; have h2 := HKID.out.2.2.2.2.1; have h3 := HKID.out.1; omega)).mono ?_
        rintro e w4 ⟨x, m1, rfl, hx, ha1, hk1⟩
        have HK2' : Hid (Kz mb w w4) := Lib.hid (HK1.out.trans hk1)
        have HX1 := Lib.hid hx; have HA1 := Lib.hid ha1
        have HRB2 : Hid (Blk w4 w.heap.size 164 zarr) := Lib.hid (hk1.blk (HA.out.below HB1.out).is HRB1.out rfl)
        clear hx ha1 hk1
        go_wp2_with fail
        refine (IH.out w4 hi m1 (HK2'.out.sto HIM.out HS.out) (HK2'.out.ops HIM.out HO.out) (HK2'.out.blk HIM.out HQ.out rfl) (HK2'.out.blk HIM.out HX.out rfl) HA1.out HKID.out.2.2.2.1 (by have h1 := HF.out; have h2 := HKID.out.2.2.2.2.2; have h3 := HKID.out.1; omega)).mono ?_
        rintro e w5 ⟨y, m2, rfl, hy, ha2, hk2⟩
        have HK3 : Hid (Kz mb w w5) := Lib.hid (HK2'.out.trans hk2)
        have HY1 := Lib.hid hy; have HA2 := Lib.hid ha2
        have HRB3 : Hid (Blk w5 w.heap.size 164 zarr) := Lib.hid (hk2.blk HA1.out.is HRB2.out rfl)
        clear hy ha2 hk2
        go_wp2_with fail
        have hbb : Below w5.heap.size w5 ((w5.alloc (.cells (#[.int .u64 (x : Int), .int .u64 0, .int .u64 0, .int .u64 0]) 164)).alloc (.cells (#[.int .u64 (y : Int), .int .u64 0, .int .u64 0, .int .u64 0]) 164)) := ((Below.refl _ _).alloc (Nat.le_refl _) _).alloc (by simp) _
        have hbx : Blk ((w5.alloc (.cells (#[.int .u64 (x : Int), .int .u64 0, .int .u64 0, .int .u64 0]) 164)).alloc (.cells (#[.int .u64 (y : Int), .int .u64 0, .int .u64 0, .int .u64 0]) 164)) w5.heap.size 164 #[.int .u64 (x : Int), .int .u64 0, .int .u64 0, .int .u64 0] := (Blk.new_ _ _ _).alloc_ _
        have hby : Blk ((w5.alloc (.cells (#[.int .u64 (x : Int), .int .u64 0, .int .u64 0, .int .u64 0]) 164)).alloc (.cells (#[.int .u64 (y : Int), .int .u64 0, .int .u64 0, .int .u64 0]) 164)) (w5.heap.size + 1) 164 #[.int .u64 (y : Int), .int .u64 0, .int .u64 0, .int .u64 0] := by
          have := Blk.new_ (w5.alloc (.cells (#[.int .u64 (x : Int), .int .u64 0, .int .u64 0, .int .u64 0]) 164)) 164 (#[.int .u64 (y : Int), .int .u64 0, .int .u64 0, .int .u64 0])
          simpa using this
        have HLO2 := Lib.hid (show w.heap.size ≤ w5.heap.size from HK3.out.size)
        generalize ((w5.alloc (.cells (#[.int .u64 (x : Int), .int .u64 0, .int .u64 0, .int .u64 0]) 164)).alloc (.cells (#[.int .u64 (y : Int), .int .u64 0, .int .u64 0, .int .u64 0]) 164)) = w6 at hbb hbx hby ⊢
        have HBB := Lib.hid hbb; have HBX := Lib.hid hbx; have HBY := Lib.hid hby
        obtain ⟨g, hg⟩ : ∃ g, g = w5.heap.size := ⟨_, rfl⟩
        rw [← hg] at HBX HBY HBB HLO2 ⊢
        have HG := Lib.hid hg
        clear hbb hbx hby hg
        go_loopg [48] 4 (fun m x' wr => ∃ (i z : Nat), m + i = 4 ∧ x' = .int .i64 (i : Int) ∧ Blk wr g 164 #[.int .u64 (z : Int), .int .u64 0, .int .u64 0, .int .u64 0] ∧ Blk wr (g + 1) 164 #[.int .u64 (y : Int), .int .u64 0, .int .u64 0, .int .u64 0] ∧ (i = 0 → z = x) ∧ (i ≠ 0 → z = x ||| y) ∧ Below g w5 wr)
        case atStart => exact ⟨0, x, rfl, rfl, HBX.out, HBY.out, fun _ => rfl, fun h => absurd rfl h, HBB.out⟩
        case round =>
          obtain ⟨i, z, hm, rfl, hbx, hby, hz0, hz1, hb⟩ := hrel
          have HM2 := Lib.hid hm; have HBX := Lib.hid hbx; have HBY := Lib.hid hby; have HB := Lib.hid hb; have HZ0 := Lib.hid hz0; have HZ1 := Lib.hid hz1
          clear hm hbx hby hz0 hz1 hb
          by_cases hi4 : i < 4
          · obtain ⟨a, ha⟩ : ∃ a, a = if i = 0 then z else 0 := ⟨_, rfl⟩
            obtain ⟨b, hb⟩ : ∃ b, b = if i = 0 then y else 0 := ⟨_, rfl⟩
            have ha8 : a < 256 := by rw [ha]; split; (rename_i e; rw [HZ0.out e]; exact HX1.out.1); decide
            have hb8 : b < 256 := by rw [hb]; split; exact HY1.out.1; decide
            have ca : wr.cell? ⟨g, i, none⟩ = some (.int .u64 (a : Int)) := by
              rw [HBX.out.cell]; rcases i with _ | _ | _ | _ | i <;> first | (rw [ha]; rfl) | omega
            have cb : wr.cell? ⟨g + 1, i, none⟩ = some (.int .u64 (b : Int)) := by
              rw [HBY.out.cell]; rcases i with _ | _ | _ | _ | i <;> first | (rw [hb]; rfl) | omega
            obtain ⟨hor, hor8⟩ := or_u64 ha8 hb8
            have fa := HBX.out.frozen i
            have hgl : g < wr.heap.size := HBX.out.lt
            have hgl2 : g + 1 < wr.heap.size := HBY.out.lt
            have HAA := Lib.hid ha; have HB' := Lib.hid hb
            clear ha hb ha8 hb8 hor8
            have hid : decide (((i : Nat) : Int) < 4) = true := decide_eq_true (by omega)
            have HI4 := Lib.hid hi4
            clear hi4
            go_wp2_with fail
            have hip : ((i : Nat) : Int) < 4 := by have := HI4.out; omega
            have hip0 : (0 : Int) ≤ ((i : Nat) : Int) := by omega
            go_still_tail 8, (by kernel_rfl)
            change wpList _ _ _ _ _ wr.drew
            obtain ⟨wd, hwd⟩ : ∃ wd, wd = wr.drew := ⟨_, rfl⟩
            have HBX2 : Hid (Blk wd g 164 #[.int .u64 (z : Int), .int .u64 0, .int .u64 0, .int .u64 0]) := by rw [hwd]; exact Lib.hid HBX.out.drew_
            have HBY2 : Hid (Blk wd (g + 1) 164 #[.int .u64 (y : Int), .int .u64 0, .int .u64 0, .int .u64 0]) := by rw [hwd]; exact Lib.hid HBY.out.drew_
            have HBD : Hid (Below g w5 wd) := by rw [hwd]; exact Lib.hid HB.out.drew
            rw [← hwd]
            clear hwd ca cb fa hgl hgl2
            have ca : wd.cell? ⟨g, i, none⟩ = some (.int .u64 (a : Int)) := by
              have := HI4.out
              rw [HBX2.out.cell]; rcases i with _ | _ | _ | _ | i <;> first | (rw [HAA.out]; rfl) | omega
            have fa := HBX2.out.frozen i
            have hgl := HBX2.out.lt
            go_wp2_with fail
            go_roundg (4 - (i + 1))
            case measure => have := HM2.out; omega
            case rel =>
              refine ⟨i + 1, if i = 0 then x ||| y else z, by have := HM2.out; have := HI4.out; omega, by go_num, ?_, HBY2.out.far (by simp) _, fun h => absurd h (by omega), fun _ => ?_, HBD.out.setCell (by simp) _⟩
              · have h := HBX2.out.set_ i (.int .u64 ((a ||| b : Nat) : Int))
                have e : (#[Value.int .u64 (z : Int), .int .u64 0, .int .u64 0, .int .u64 0]).setIfInBounds i (.int .u64 ((a ||| b : Nat) : Int)) = #[.int .u64 (((if i = 0 then x ||| y else z) : Nat) : Int), .int .u64 0, .int .u64 0, .int .u64 0] := by
                  have h4 := HI4.out
                  rw [HAA.out, HB'.out]
                  rcases i with _ | _ | _ | _ | i
                  · rw [HZ0.out rfl]; rfl
                  · rw [if_neg (by omega), if_neg (by omega), if_neg (by omega)]; rfl
                  · rw [if_neg (by omega), if_neg (by omega), if_neg (by omega)]; rfl
                  · rw [if_neg (by omega), if_neg (by omega), if_neg (by omega)]; rfl
                  · omega
                rw [e] at h; exact h
              · split
                · rfl
                · rename_i e; exact HZ1.out e
          · have hi : i = 4 := by have := HM2.out; omega
            subst hi
            have hz : z = x ||| y := HZ1.out (by decide)
            obtain ⟨P, hP⟩ : ∃ P, P = 2 ^ v := ⟨_, rfl⟩
            have hv8n : v < 8 := by have := HKID.out.1; omega
            have hpw : IntKind.u64.wrap ((2 : Int) ^ v) = (P : Int) := by rw [hP]; exact pow_u64F ⟨v, hv8n⟩
            have hz8 : z < 256 := by rw [hz]; exact Nat.or_lt_two_pow (n := 8) HX1.out.1 HY1.out.1
            obtain ⟨hor, hor8⟩ := or_u64 hz8 (show P < 256 by rw [hP]; exact pow_lt hv8n)
            obtain ⟨Z, hZ⟩ : ∃ Z, Z = z ||| P := ⟨_, rfl⟩
            rw [← hZ] at hor
            have HZ := Lib.hid hZ; have HP := Lib.hid hP; have HZZ := Lib.hid hz
            clear hZ hP hz hz8 hor8 hv8n
            have td : ((v : Nat) : Int).tdiv 64 = 0 := Int.tdiv_eq_zero_of_lt (by omega) (by have := HKID.out.1; omega)
            have tm : ((v : Nat) : Int).tmod 64 = (v : Int) := Int.tmod_eq_of_lt (by omega) (by have := HKID.out.1; omega)
            have hw0 : IntKind.i64.wrap 0 = 0 := by decide
            have hv0 : (0 : Int) ≤ ((v : Nat) : Int) := by omega
            have hv8 : ((v : Nat) : Int) < 8 := by have := HKID.out.1; omega
            have ca : wr.cell? ⟨g, 0, none⟩ = some (.int .u64 (z : Int)) := HBX.out.cell 0
            have hgl := HBX.out.lt
            go_wp2_with fail
            go_still_tail 9, (by kernel_rfl)
            change wpList _ _ _ _ _ wr.drew
            obtain ⟨wd, hwd⟩ : ∃ wd, wd = wr.drew := ⟨_, rfl⟩
            have HBX2 : Hid (Blk wd g 164 #[.int .u64 (z : Int), .int .u64 0, .int .u64 0, .int .u64 0]) := by rw [hwd]; exact Lib.hid HBX.out.drew_
            have HBD : Hid (Below g w5 wd) := by rw [hwd]; exact Lib.hid HB.out.drew
            rw [← hwd]
            clear hwd ca hgl
            have ca : wd.cell? ⟨g, 0, none⟩ = some (.int .u64 (z : Int)) := HBX2.out.cell 0
            have fa := HBX2.out.frozen 0
            have hgl := HBX2.out.lt
            go_wp2_with fail
            have hb7 : Below g w5 (wd.setCell ⟨g, 0, none⟩ (.int .u64 (Z : Int))) := HBD.out.setCell (by simp) _
            have hx7 : Blk (wd.setCell ⟨g, 0, none⟩ (.int .u64 (Z : Int))) g 164 #[.int .u64 (Z : Int), .int .u64 0, .int .u64 0, .int .u64 0] := HBX2.out.set_ 0 _
            generalize wd.setCell ⟨g, 0, none⟩ (.int .u64 (Z : Int)) = w7 at hb7 hx7 ⊢
            have hbb : Below w5.heap.size w5 w7 := by rw [← HG.out]; exact hb7
            have HX7 := Lib.hid (show SpBlk w7 xb cb qn sa sc (some mb) swp from (HK3.out.blk HIM.out HX.out rfl).below hbb (HK3.out.blk HIM.out HX.out rfl).lt)
            have HA7 := Lib.hid (HA2.out.below hbb)
            have HRB7 := Lib.hid (HRB3.out.below hbb HRB3.out.lt)
            have HK7 : Hid (Kz mb w w7) := Lib.hid (HK3.out.trans (Km.of_below hbb))
            have HBX7 := Lib.hid hx7
            have HOK7 : Hid (OkMask S k Z) := by
              have := OkMask.node (S := S) (k := k) (x := x) (y := y) HK2.out HK.out (by rw [← HV.out]; have := HKID.out.1; omega) (by rw [← HLO.out]; exact HX1.out) (by rw [← HHI.out]; exact HY1.out)
              rw [← HV.out, ← HZZ.out, ← HP.out, ← HZ.out] at this
              exact Lib.hid this
            clear hb7 hx7 hbb ca fa hgl td tm hw0 hv0 hv8 hpw hor
            have c37 : w7.cell? ⟨xb, 3, none⟩ = some (.map (some mb)) := HX7.out.cell 3
            have d0 : w7.cell? ⟨g, 0, none⟩ = some (.int .u64 (Z : Int)) := HBX7.out.cell 0
            have d1 : w7.cell? ⟨g, 1, none⟩ = some (.int .u64 0) := HBX7.out.cell 1
            have d2 : w7.cell? ⟨g, 2, none⟩ = some (.int .u64 0) := HBX7.out.cell 2
            have d3 : w7.cell? ⟨g, 3, none⟩ = some (.int .u64 0) := HBX7.out.cell 3
            have xl7 : xb < w7.heap.size := HX7.out.lt
            have gl7 : g < w7.heap.size := HBX7.out.lt
            clear c3 c1 xl
            go_still_tail 6, (by kernel_rfl)
            change wpList _ _ _ _ _ w7.drew
            obtain ⟨w8, hw8⟩ : ∃ w8, w8 = w7.drew := ⟨_, rfl⟩
            have hb8 : Below w7.heap.size w7 w8 := by rw [hw8]; exact (Below.refl _ _).drew
            rw [← hw8]
            obtain ⟨w9, hrun, ha9, hg9⟩ := (HA7.out.below hb8).put HK.out HKS.out HOK7.out
            have HBX8 := Lib.hid (HBX7.out.below hb8 gl7); have HRB8 := Lib.hid (HRB7.out.below hb8 HRB7.out.lt)
            have HK8 : Hid (Kz mb w w9) := Lib.hid (HK7.out.trans ((Km.of_below hb8).trans (Km.grown hg9)))
            have hkz : Kb (fun _ => false) w8 w9 := (Km.grown (T := fun _ => false) (B := 0) hg9).kb ((HA7.out.below hb8).is)
            have HX9 := Lib.hid (hkz _ _ _ HBX8.out rfl); have HRB9 := Lib.hid (hkz _ _ _ HRB8.out rfl)
            have HA9 := Lib.hid ha9
            clear hw8 hb8 hkz ha9 hg9 c37 xl7 gl7 d0 d1 d2 d3
            have d0 : w9.cell? ⟨g, 0, none⟩ = some (.int .u64 (Z : Int)) := HX9.out.cell 0
            have d1 : w9.cell? ⟨g, 1, none⟩ = some (.int .u64 0) := HX9.out.cell 1
            have d2 : w9.cell? ⟨g, 2, none⟩ = some (.int .u64 0) := HX9.out.cell 2
            have d3 : w9.cell? ⟨g, 3, none⟩ = some (.int .u64 0) := HX9.out.cell 3
            have e0 : w9.cell? ⟨w.heap.size, 0, none⟩ = some (.int .u64 0) := HRB9.out.cell 0
            have e1 : w9.cell? ⟨w.heap.size, 1, none⟩ = some (.int .u64 0) := HRB9.out.cell 1
            have e2 : w9.cell? ⟨w.heap.size, 2, none⟩ = some (.int .u64 0) := HRB9.out.cell 2
            have e3 : w9.cell? ⟨w.heap.size, 3, none⟩ = some (.int .u64 0) := HRB9.out.cell 3
            have f0 := HRB9.out.frozen 0
            have f1 := HRB9.out.frozen 1
            have f2 := HRB9.out.frozen 2
            have f3 := HRB9.out.frozen 3
            have el := HRB9.out.lt
            have gl := HX9.out.lt
            go_wp2_with fail
            refine bodyPost_ret (v := arrU Z) ?_ rfl ?_
            · rw [results_cell1 rfl]; go_simp
            · have h0 := HRB9.out
              have h1 := h0.set_ 0 (.int .u64 (Z : Int))
              have h2 := h1.set_ 1 (.int .u64 0)
              have h3 := h2.set_ 2 (.int .u64 0)
              have hk9 := ((Kp.set (T := fun t => t == 164) h0 rfl (Nat.zero_le _) 0 (.int .u64 (Z : Int))).trans (Kp.set h1 rfl (Nat.zero_le _) 1 (.int .u64 0))).trans ((Kp.set h2 rfl (Nat.zero_le _) 2 (.int .u64 0)).trans (Kp.set h3 rfl (Nat.zero_le _) 3 (.int .u64 0)))
              have hir : ∀ h : w.heap.size < w.heap.size, KF (fun _ => false) 0 mb w w.heap.size := fun h => absurd h (Nat.lt_irrefl _)
              exact ⟨Z, updM m2 k Z, rfl, HOK7.out, HA9.out.kp hk9, (((HK8.out.setCell hir _).setCell hir _).setCell hir _).setCell hir _⟩
end Go.Proofs.YtobhjkfkdkiigaaGreatDoor

namespace Go.Proofs.YtobhjkfkdkiigaaGreatDoor
open Go.RowKit HP NP LY
abbrev TX : TypeId → Bool := fun t => t == 97
/-- what a call may have changed: the blocks below B are as they were, and so are the cells of no type of T -/
structure Ks (T : TypeId → Bool) (B : Nat) (w w' : World) : Prop where
  low : Below B w w'
  kb : Kb T w w'
theorem Ks.refl (T : TypeId → Bool) (B : Nat) (w : World) : Ks T B w w := ⟨Below.refl _ _, fun _ _ _ h _ => h⟩
theorem Ks.trans {T : TypeId → Bool} {B : Nat} {a b c : World} (h : Ks T B a b) (k : Ks T B b c) : Ks T B a c := ⟨h.low.trans k.low, h.kb.trans k.kb⟩
theorem Ks.below {T : TypeId → Bool} {B : Nat} {a b : World} (h : Below a.heap.size a b) (hB : B ≤ a.heap.size) : Ks T B a b := ⟨h.mono hB, (Kp.of_below (B := 0) h).kb⟩
theorem Ks.kp {T : TypeId → Bool} {B : Nat} {a b : World} (h : Kp T B a b) (hB : B ≤ a.heap.size) : Ks T B a b := ⟨h.low hB, h.kb⟩
theorem Kb.mono {T T' : TypeId → Bool} {a b : World} (h : Kb T a b) (ht : ∀ t, T t = true → T' t = true) : Kb T' a b := fun c t cs hb hf => h c t cs hb (by
  cases e : T t with
  | false => rfl
  | true => rw [ht t e] at hf; cases hf)
theorem Ks.mono {T T' : TypeId → Bool} {B : Nat} {a b : World} (h : Ks T B a b) (ht : ∀ t, T t = true → T' t = true) : Ks T' B a b := ⟨h.low, h.kb.mono ht⟩
theorem Ks.kz {B mb : Nat} {a b : World} (h : Kz mb a b) (hm : IsMap a mb) (hB : B ≤ a.heap.size) (hb : B ≤ mb) (T : TypeId → Bool) : Ks T B a b :=
  ⟨Only.below h (fun k hk _ hf => by
    rcases hf with ⟨_, cs, t, f, _, h3⟩ | rfl
    · cases h3
    · omega) hB, (Km.kb h hm).mono fun _ e => by cases e⟩
theorem Ks.set {T : TypeId → Bool} {B : Nat} {w : World} {b : Nat} {t : TypeId} {cs : Array Value} (hb : Blk w b t cs) (ht : T t = true) (hB : B ≤ b) (i : Nat) (u : Value) : Ks T B w (w.setCell ⟨b, i, none⟩ u) :=
  ⟨(Below.refl _ _).setCell hB u, (Kp.set (B := 0) hb ht (Nat.zero_le _) i u).kb⟩
theorem Cd.ks {w w' : World} {B p q qn cb : Nat} {S : NS} (h : Cd w B p q qn cb S) (hk : Ks TX B w w') : Cd w' B p q qn cb S :=
  ⟨h.sto.kb hk.kb rfl rfl rfl rfl rfl, h.ops.kb hk.kb rfl rfl, hk.kb _ _ _ h.qu rfl, h.code.kb hk.kb rfl rfl rfl rfl, h.v8, Nat.le_trans h.low hk.low.size⟩
/-- the map of what was asked, of the store as it is -/
def AskOk (w : World) (B : Nat) (S : NS) (ma : Option Nat) (swp : Nat) : Prop := ∀ mb, ma = some mb → B ≤ mb ∧ (swp = S.sweeps → ∃ m, AskAt w mb S m)
structure Rl (w : World) (B p q qn cb xb : Nat) (S : NS) : Prop where
  cd : Cd w B p q qn cb S
  xB : B ≤ xb
  sw : S.sweeps < 1048576
  sp : ∃ (za : Option Addr) (zc : Nat) (ma : Option Nat) (swp : Nat), SpBlk w xb cb qn za zc ma (swp : Int) ∧ CellsT w za (zV [4, 4, 4, 4]) ∧ swp ≤ S.sweeps ∧ AskOk w B S ma swp
theorem AskOk.below {w w' : World} {B : Nat} {S : NS} {ma : Option Nat} {swp : Nat} (h : AskOk w B S ma swp) (hb : Below w.heap.size w w') : AskOk w' B S ma swp := fun mb e => ⟨(h mb e).1, fun hs => by obtain ⟨m, ha⟩ := (h mb e).2 hs; exact ⟨m, ha.below hb⟩⟩
theorem Rl.below {w w' : World} {B p q qn cb xb : Nat} {S : NS} (h : Rl w B p q qn cb xb S) (hb : Below w.heap.size w w') : Rl w' B p q qn cb xb S := by
  obtain ⟨a, b, c, za, zc, ma, swp, h1, h2, h3, h4⟩ := h
  exact ⟨a.below hb, b, c, za, zc, ma, swp, h1.below hb h1.lt, h2.below hb, h3, h4.below hb⟩
theorem Rl.op {w w' : World} {B p q qn cb xb : Nat} {S S' : NS} (h : Rl w B p q qn cb xb S) (hc : Cd w' B p q qn cb S') (hk : Kp TO B w w') (he : Ext S S') (hs : S'.sweeps = S.sweeps) : Rl w' B p q qn cb xb S' := by
  obtain ⟨a, b, c, za, zc, ma, swp, h1, h2, h3, h4⟩ := h
  refine ⟨hc, b, by rw [hs]; exact c, za, zc, ma, swp, hk.blk h1 rfl, h2.kb hk.kb rfl, by rw [hs]; exact h3, fun mb e => ⟨(h4 mb e).1, fun hs' => ?_⟩⟩
  obtain ⟨m, ha⟩ := (h4 mb e).2 (by rw [← hs]; exact hs')
  exact ⟨m, (ha.kp hk).ext he a.sto.wf⟩
theorem mask_zero {x : Nat} {vs : List Nat} {P : Nat → Prop} (h : ∀ u, x.testBit u = true → P u ∧ u ∉ vs) (hv : ∀ u, P u → u ∈ vs) : x = 0 := by
  refine Nat.eq_of_testBit_eq fun u => ?_
  rw [Nat.zero_testBit]
  cases e : x.testBit u with
  | false => rfl
  | true => exact absurd (hv u (h u e).1) (h u e).2
theorem map_nil_eq (ma : Option Nat) (w : World) : (binOp .eql 95 (.map ma) (.map none)).run Tryz.prog w = .ok (.bool ma.isNone) w := by
  cases ma <;> kernel_rfl
set_option maxRecDepth 100000 in
set_option maxHeartbeats 6400000 in
theorem rwithin_ok (w : World) (B p q qn cb xb : Nat) (S : NS) (h : Rl w B p q qn cb xb S) (k : Nat) (hk : isB S.l k = true) (V : Nat → Bool) (hd : Dep V (fun ρ => den S.l ρ k)) (va : Option Addr) (vc : Nat) (vs : List Nat) (hvs : ∀ v ∈ vs, v < 8) (hV : ∀ v, V v = true → v ∈ vs) (hl : vs.length ≤ 256) (hc : CellsT w va (zV (zN vs))) :
    Calls Tryz.prog 57 #[.pointer (some ⟨xb, 0, none⟩), .int .i64 (k : Int), .slice va vs.length vc] w fun e w' => e = .returned (.int .i64 0) ∧ Rl w' B p q qn cb xb S ∧ Ks TX B w w' := by
  have H := Lib.hid h; have HK := Lib.hid hk; have HD := Lib.hid hd; have HVS := Lib.hid hvs; have HV := Lib.hid hV; have HL := Lib.hid hl; have HC := Lib.hid hc
  obtain ⟨hcd, hxB, hsw, za, zc, ma, swp, hsp, hrow, hle, hask⟩ := h
  have HCD := Lib.hid hcd; have HSP := Lib.hid hsp; have HROW := Lib.hid hrow; have HLE := Lib.hid hle; have HASKS := Lib.hid hask; have HSW := Lib.hid hsw; have HXB := Lib.hid hxB
  clear hk hd hvs hV hl hc hcd hxB hsw hrow hle hask
  have c1 : w.cell? ⟨xb, 1, none⟩ = some (.pointer (some ⟨qn, 0, none⟩)) := hsp.cell 1
  have xl := hsp.lt
  have HASK := Lib.hid (show askV S (k : Int) = .tuple #[.int .i64 ((nd S.l k).v : Int), .int .i64 ((nd S.l k).low : Int), .int .i64 ((nd S.l k).high : Int), .int .i64 0] by
    unfold askV; rw [if_pos (by rw [isK_nat]; exact HK.out)]; simp only [Int.toNat_natCast])
  clear hsp
  go_enter Tryz.func57, Tryz.ntmps57
  go_wp2_with fail
  refine (qops_ok w qn p q HCD.out.qu).mono ?_
  rintro e w3 ⟨rfl, rfl⟩
  go_wp2_with fail
  refine (ostore_ok w B p q S HCD.out.ops).mono ?_
  rintro e w3 ⟨rfl, rfl⟩
  go_wp2_with fail
  refine (nask_ok w B p S HCD.out.sto k).mono ?_
  rintro e w3 ⟨rfl, n, rfl⟩
  rw [HASK.out]
  have hb1 : Below w.heap.size w (w.drewN n) := bdN' w n
  generalize w.drewN n = w1 at hb1 ⊢
  have HB1 := Lib.hid hb1; have HSP1 := Lib.hid (HSP.out.below hb1 HSP.out.lt); have HCD1 := Lib.hid (HCD.out.below hb1); have HA1 := Lib.hid (HASKS.out.below hb1); have HROW1 := Lib.hid (HROW.out.below hb1)
  clear hb1 c1 xl HASK
  go_wp2_with fail
  refine (nsweeps_ok w1 B p S HCD1.out.sto).mono ?_
  rintro e w3 ⟨rfl, rfl⟩
  have hws : wr64 S.sweeps = (S.sweeps : Int) := by have := HSW.out; unfold wr64; exact w64 _ (by omega) (by omega)
  rw [hws]
  clear hws
  obtain ⟨sn, hsn⟩ : ∃ sn, sn = S.sweeps := ⟨_, rfl⟩
  rw [← hsn]
  have HSN := Lib.hid hsn
  clear hsn
  go_upto_region 6 with (fail)
  obtain ⟨bb, hbb⟩ : ∃ bb, bb = (!(decide (sn = swp)) || ma.isNone) := ⟨_, rfl⟩
  have c4 : w1.cell? ⟨xb, 4, none⟩ = some (.int .i64 (swp : Int)) := HSP1.out.cell 4
  have c3 : w1.cell? ⟨xb, 3, none⟩ = some (.map ma) := HSP1.out.cell 3
  have xl := HSP1.out.lt
  go_cut [12, 47] (fun x y wc => wc = w1 ∧ x = .int .i64 (sn : Int) ∧ y = .bool bb)
  case first =>
    have HBBB := Lib.hid hbb
    clear hbb
    by_cases e : sn = swp
    · have d1 : ((sn : Int) != (swp : Int)) = false := by rw [e]; simp
      have d2 : ((sn : Int) == (swp : Int)) = true := by rw [e]; simp
      have HE := Lib.hid e
      clear e
      have hmc := map_nil_eq ma w1
      cases hma : ma.isNone with
      | true =>
        rw [hma] at hmc
        go_wp2_with fail
        go_meet
        case rel => refine ⟨rfl, rfl, ?_⟩; rw [HBBB.out, hma]; simp
      | false =>
        rw [hma] at hmc
        go_wp2_with fail
        go_meet
        case rel => refine ⟨rfl, rfl, ?_⟩; rw [HBBB.out, hma, HE.out]; simp
    · have e' : ¬ ((sn : Int) = (swp : Int)) := by omega
      have d1 : ((sn : Int) != (swp : Int)) = true := by rw [bne_iff_ne]; exact e'
      have d2 : ((sn : Int) == (swp : Int)) = false := by rw [beq_eq_false_iff_ne]; exact e'
      have HE := Lib.hid e
      clear e e'
      go_wp2_with fail
      go_meet
      case rel => refine ⟨rfl, rfl, ?_⟩; rw [HBBB.out, decide_eq_false HE.out]; simp
  case rest =>
    obtain ⟨rfl, rfl, rfl⟩ := hcut
    have HBBB := Lib.hid hbb
    clear hbb
    clear c3 c4 xl
    go_upto_if 47 with (fail)
    go_cut [12] (fun x wc => x = .int .i64 (sn : Int) ∧ ∃ (mb : Nat) (m : Nat → Option Nat), Cd wc B p q qn cb S ∧ SpBlk wc xb cb qn za zc (some mb) (sn : Int) ∧ CellsT wc za (zV [4, 4, 4, 4]) ∧ B ≤ mb ∧ AskAt wc mb S m ∧ Ks TX B w wc ∧ CellsT wc va (zV (zN vs)))
    case first =>
      cases e : bb with
      | false =>
        subst e
        go_wp2_with fail
        go_meet
        case rel =>
          have hx := HBBB.out
          have e1 : sn = swp := by
            rcases Nat.decEq sn swp with h | h
            · rw [decide_eq_false h] at hx; simp at hx
            · exact h
          cases hma : ma with
          | none => rw [hma] at hx; simp at hx
          | some mb =>
            obtain ⟨h1, h2⟩ := HA1.out mb hma
            obtain ⟨m, hm⟩ := h2 (by rw [← e1]; exact HSN.out)
            refine ⟨rfl, mb, m, HCD1.out, ?_, HROW1.out, h1, hm, Ks.below HB1.out HCD.out.low, HC.out.below HB1.out⟩
            have := HSP1.out
            rw [hma, ← e1] at this
            exact this
      | true =>
        subst e
        have xl : xb < wc.heap.size := HSP1.out.lt
        have hmk := @run_makeMap Tryz.prog
        have c3 : wc.cell? ⟨xb, 3, none⟩ = some (.map ma) := HSP1.out.cell 3
        have c4 : wc.cell? ⟨xb, 4, none⟩ = some (.int .i64 (swp : Int)) := HSP1.out.cell 4
        have f3 := HSP1.out.frozen 3
        have f4 := HSP1.out.frozen 4
        go_wp2_with fail
        go_meet
        case rel =>
          have h0 := HSP1.out
          have h1 := h0.set_ 3 (.map (some wc.heap.size))
          have h2 := h1.set_ 4 (.int .i64 (sn : Int))
          have hk12 := (Ks.set (T := TX) h0 rfl HXB.out 3 (.map (some wc.heap.size))).trans (Ks.set (T := TX) h1 rfl HXB.out 4 (.int .i64 (sn : Int)))
          obtain ⟨W1, hW1⟩ : ∃ W1, W1 = (wc.setCell ⟨xb, 3, none⟩ (.map (some wc.heap.size))).setCell ⟨xb, 4, none⟩ (.int .i64 (sn : Int)) := ⟨_, rfl⟩
          have hsz : W1.heap.size = wc.heap.size := by rw [hW1]; simp [World.setCell]
          rw [← hW1] at h2 hk12 ⊢
          have hb0 : Below W1.heap.size W1 (W1.alloc (.map #[] 0)) := (Below.refl _ _).alloc (Nat.le_refl _) _
          have hlow : B ≤ W1.heap.size := by rw [hsz]; exact HCD1.out.low
          have hk := hk12.trans (Ks.below (T := TX) hb0 hlow)
          have hnew := AskAt.new W1 S
          rw [hsz] at hnew
          have hcv : CellsT wc va (zV (zN vs)) := HC.out.below HB1.out
          exact ⟨rfl, wc.heap.size, _, HCD1.out.ks hk, h2.alloc_ _, HROW1.out.kb hk.kb rfl, HCD1.out.low, hnew, (Ks.below HB1.out HCD.out.low).trans hk, hcv.kb hk.kb rfl⟩
    case rest => 
      obtain ⟨rfl, mb, m, hcd, hsp, hrow, hmb, ha, hks, hvc⟩ := hcut
      have HCD2 := Lib.hid hcd; have HSP2 := Lib.hid hsp; have HROW2 := Lib.hid hrow; have HMB := Lib.hid hmb; have HA2 := Lib.hid ha; have HKS2 := Lib.hid hks; have HVC2 := Lib.hid hvc
      clear hcd hsp hrow hmb ha hks hvc HSP1 HCD1 HA1 HROW1 HB1 HCD HSP HROW HASKS
      go_wp2_with fail
      refine (asked_ok B p q qn cb xb mb za zc (sn : Int) S HCD2.out.v8 (S.vars - (nd S.l k).v + 1) _ k m HCD2.out.sto HCD2.out.ops HCD2.out.qu HSP2.out HA2.out HK.out (by omega)).mono ?_
      rintro e w5 ⟨x, m', rfl, hx, ha, hkz⟩
      have HX := Lib.hid hx
      have hks5 : Ks TX B wc w5 := Ks.kz hkz HA2.out.is HCD2.out.low HMB.out _
      have HCD5 := Lib.hid (HCD2.out.ks hks5); have HSP5 := Lib.hid (show SpBlk w5 xb cb qn za zc (some mb) (sn : Int) from hkz.blk HA2.out.is HSP2.out rfl); have HROW5 := Lib.hid (HROW2.out.kb hks5.kb rfl); have HA5 := Lib.hid ha; have HKS5 := Lib.hid (HKS2.out.trans hks5); have HVC5 := Lib.hid (HVC2.out.kb hks5.kb rfl)
      clear hx ha hkz hks5 HCD2 HSP2 HROW2 HA2 HKS2 HVC2 HC
      go_wp2_with fail
      have hbx : Blk (w5.alloc (.cells (#[.int .u64 (x : Int), .int .u64 0, .int .u64 0, .int .u64 0]) 164)) w5.heap.size 164 #[.int .u64 (x : Int), .int .u64 0, .int .u64 0, .int .u64 0] := Blk.new_ _ _ _
      have hbb : Below w5.heap.size w5 (w5.alloc (.cells (#[.int .u64 (x : Int), .int .u64 0, .int .u64 0, .int .u64 0]) 164)) := (Below.refl _ _).alloc (Nat.le_refl _) _
      generalize w5.alloc (.cells (#[.int .u64 (x : Int), .int .u64 0, .int .u64 0, .int .u64 0]) 164) = w6 at hbx hbb ⊢
      obtain ⟨g, hg⟩ : ∃ g, g = w5.heap.size := ⟨_, rfl⟩
      rw [← hg] at hbx ⊢
      obtain ⟨N, hN⟩ : ∃ N, N = vs.length := ⟨_, rfl⟩
      rw [← hN] at HL ⊢
      have HBX := Lib.hid hbx; have HBB := Lib.hid hbb; have HG := Lib.hid hg; have HN := Lib.hid hN
      clear hbx hbb hg hN
      have hN0 : (0 : Int) ≤ ((N : Nat) : Int) := by omega
      go_loopg [61] N (fun m y wr => ∃ (i z : Nat), m + i = N ∧ y = .int .i64 (i : Int) ∧ Blk wr g 164 #[.int .u64 (z : Int), .int .u64 0, .int .u64 0, .int .u64 0] ∧ z < 256 ∧ (∀ u, z.testBit u = true → x.testBit u = true ∧ u ∉ vs.take i) ∧ Below w5.heap.size w5 wr)
      case atStart => exact ⟨0, x, rfl, rfl, HBX.out, HX.out.1, fun u hu => ⟨hu, by simp⟩, HBB.out⟩
      case round =>
        obtain ⟨i, z, hm, rfl, hbx, hz8, hzz, hb⟩ := hrel
        have HM2 := Lib.hid hm; have HBX := Lib.hid hbx; have HZ8 := Lib.hid hz8; have HZZ := Lib.hid hzz; have HB := Lib.hid hb
        clear hm hbx hz8 hzz hb
        by_cases hi : i < N
        · have hiv : i < vs.length := by rw [← HN.out]; exact hi
          obtain ⟨v, hv⟩ : ∃ v, vs[i]? = some v := ⟨_, List.getElem?_eq_getElem hiv⟩
          have hv8n : v < 8 := HVS.out v (List.mem_of_getElem? hv)
          obtain ⟨vb, voff, rfl, vbl, v0⟩ := (HVC5.out.below HB.out).c.at_ (show (zV (zN vs))[i]? = some (.int .i64 (v : Int)) by simp [zV, zN, hv])
          have hid : decide (((i : Nat) : Int) < ((N : Nat) : Int)) = true := decide_eq_true (by omega)
          have hip : ((i : Nat) : Int) < ((N : Nat) : Int) := by omega
          have hip0 : (0 : Int) ≤ ((i : Nat) : Int) := by omega
          have td : ((v : Nat) : Int).tdiv 64 = 0 := Int.tdiv_eq_zero_of_lt (by omega) (by omega)
          have tm : ((v : Nat) : Int).tmod 64 = (v : Int) := Int.tmod_eq_of_lt (by omega) (by omega)
          have hw0 : IntKind.i64.wrap 0 = 0 := by decide
          have hv0 : (0 : Int) ≤ ((v : Nat) : Int) := by omega
          have hv8 : ((v : Nat) : Int) < 8 := by omega
          have ca : wr.cell? ⟨g, 0, none⟩ = some (.int .u64 (z : Int)) := HBX.out.cell 0
          have hgl := HBX.out.lt
          obtain ⟨P, hP⟩ : ∃ P, P = 2 ^ v := ⟨_, rfl⟩
          have hpw : IntKind.u64.wrap ((2 : Int) ^ v) = (P : Int) := by rw [hP]; exact pow_u64F ⟨v, hv8n⟩
          obtain ⟨hor, hor8⟩ := andn_u64 HZ8.out hv8n
          obtain ⟨Z, hZ⟩ : ∃ Z, Z = z &&& (255 - 2 ^ v) := ⟨_, rfl⟩
          rw [← hZ, ← hP] at hor
          have HZ := Lib.hid hZ; have HP := Lib.hid hP; have HV8 := Lib.hid hv8n; have HVI := Lib.hid hv; have HIV := Lib.hid hiv; have HI := Lib.hid hi; have HOR8 := Lib.hid hor8
          clear hZ hP hv hiv hi hv8n hor8
          go_wp2_with fail
          go_still_tail 9, (by kernel_rfl)
          change wpList _ _ _ _ _ wr.drew
          obtain ⟨wd, hwd⟩ : ∃ wd, wd = wr.drew := ⟨_, rfl⟩
          have HBX2 : Hid (Blk wd g 164 #[.int .u64 (z : Int), .int .u64 0, .int .u64 0, .int .u64 0]) := by rw [hwd]; exact Lib.hid HBX.out.drew_
          have HBD : Hid (Below w5.heap.size w5 wd) := by rw [hwd]; exact Lib.hid HB.out.drew
          rw [← hwd]
          clear hwd ca hgl
          have ca : wd.cell? ⟨g, 0, none⟩ = some (.int .u64 (z : Int)) := HBX2.out.cell 0
          have fa := HBX2.out.frozen 0
          have hgl := HBX2.out.lt
          go_wp2_with fail
          go_roundg (N - (i + 1))
          case measure => have := HM2.out; have := HI.out; omega
          case rel =>
            refine ⟨i + 1, Z, by have := HM2.out; have := HI.out; omega, by have := HL.out; have := HI.out; rw [w64 _ (by omega) (by omega)]; rfl, HBX2.out.set_ 0 _, by rw [HZ.out]; exact HOR8.out, fun u hu => ?_, HBD.out.setCell (by rw [HG.out]; simp) _⟩
            rw [HZ.out] at hu
            obtain ⟨h1, h2⟩ := andn_bit HV8.out hu
            obtain ⟨h3, h4⟩ := HZZ.out u h1
            refine ⟨h3, fun hu' => ?_⟩
            rw [List.take_add_one, HVI.out] at hu'
            rcases List.mem_append.1 hu' with h | h
            · exact h4 h
            · simp at h; exact h2 h
        · have hi2 : i = N := by have := HM2.out; omega
          have hid : decide (((i : Nat) : Int) < ((N : Nat) : Int)) = false := decide_eq_false (by omega)
          have hz : z = 0 := mask_zero (P := fun u => x.testBit u = true) HZZ.out (fun u hu => by
            rw [hi2, HN.out, List.take_length]
            exact HV.out u (HX.out.dep HCD5.out.sto.wf HK.out HD.out hu))
          subst hz
          have ca : wr.cell? ⟨g, 0, none⟩ = some (.int .u64 0) := HBX.out.cell 0
          have cb' : wr.cell? ⟨g, 1, none⟩ = some (.int .u64 0) := HBX.out.cell 1
          have cc : wr.cell? ⟨g, 2, none⟩ = some (.int .u64 0) := HBX.out.cell 2
          have cd : wr.cell? ⟨g, 3, none⟩ = some (.int .u64 0) := HBX.out.cell 3
          have hgl := HBX.out.lt
          have heq := eq_arr4 0 0 0 0 0 0 0 0 wr
          clear hi
          go_wp2_with fail
          go_ret
          have hr : Rl w5 B p q qn cb xb S := ⟨HCD5.out, HXB.out, HSW.out, za, zc, some mb, sn, HSP5.out, HROW5.out, Nat.le_of_eq HSN.out, fun mb' e => by
            injection e with e
            subst e
            exact ⟨HMB.out, fun _ => ⟨m', HA5.out⟩⟩⟩
          exact ⟨rfl, hr.below HB.out, HKS5.out.trans (Ks.below HB.out HCD5.out.low)⟩
end Go.Proofs.YtobhjkfkdkiigaaGreatDoor

namespace Go.Proofs.YtobhjkfkdkiigaaGreatDoor
open Go.RowKit HP NP LY
abbrev sdm (l : List ByteArray) : List Dm := l.map fun s => ⟨s, 0⟩
theorem sdm_at {l : List ByteArray} {i : Nat} {s : ByteArray} (h : l[i]? = some s) : (sdm l)[i]? = some ⟨s, 0⟩ := by rw [List.getElem?_map, h]; rfl
/-- attributes that a relation may have -/
structure NmOk (l : List ByteArray) : Prop where
  len : l.length ≤ 8
  one : ∀ s ∈ l, 1 ≤ s.size ∧ s.size ≤ 16
  nod : l.Nodup
theorem nmS_new {l : List ByteArray} (hn : l.Nodup) {i : Nat} {s : ByteArray} (h : l[i]? = some s) : nameM (sdm l) i (.string s.data.toList) = none := by
  show (if _ then _ else _) = _
  rw [if_neg]
  rw [Bool.not_eq_true, List.any_eq_false]
  intro x hx
  rw [decide_eq_true_eq]
  intro e
  have hx' : x ∈ sdm (l.take i) := by unfold sdm; rw [List.map_take]; exact hx
  obtain ⟨t, ht, rfl⟩ := List.mem_map.1 hx'
  have : t = s := ByteArray.ext (Array.toList_inj.1 e)
  subst this
  have hil : i < l.length := (List.getElem?_eq_some_iff.1 h).1
  obtain ⟨j, hj, hjt⟩ := List.mem_iff_getElem.1 ht
  rw [List.length_take] at hj
  rw [List.getElem_take] at hjt
  have h2 := (List.getElem?_eq_some_iff.1 h).2
  have := (List.getElem_inj hn).1 (hjt.trans h2.symm)
  omega
set_option maxRecDepth 100000 in
set_option maxHeartbeats 6400000 in
theorem rnames_ok (w : World) (a : Option Addr) (l : List ByteArray) (c : Nat) (hok : NmOk l) (hc : Cells w a (l.map Value.string)) :
    Calls Tryz.prog 56 #[.slice a l.length c] w fun e w' => e = .returned (.bool true) ∧ Below w.heap.size w w' := by
  have hmk := @run_makeMap Tryz.prog
  obtain ⟨am, ham⟩ : ∃ am, am = w.heap.size := ⟨_, rfl⟩
  obtain ⟨w1, hw1⟩ : ∃ w1, w1 = w.alloc (.map #[] 0) := ⟨_, rfl⟩
  have hb1 : Below w.heap.size w w1 := by rw [hw1]; exact (Below.refl _ _).alloc (Nat.le_refl _) _
  have HM1 : Hid (MapAt w1 Tryz.prog 9 am 0 (nameM (sdm l) 0)) := Lib.hid (by rw [hw1, ham, nameM_zero]; exact MapAt.made w Tryz.prog 9)
  obtain ⟨N, hN⟩ : ∃ N, l.length = N := ⟨_, rfl⟩
  have hl := hok.len
  have HC := Lib.hid hc; have HNM := Lib.hid hok; have HN := Lib.hid hN; have HW1 := Lib.hid hw1; have HAM := Lib.hid ham; have HB1 := Lib.hid hb1
  rw [hN] at hl ⊢
  clear hc hok hN hw1 ham hb1
  have hN0 : (0 : Int) ≤ ((N : Nat) : Int) := by omega
  go_enter Tryz.func56, Tryz.ntmps56
  go_upto_region 2 with (fail)
  rw [← HW1.out, ← HAM.out]
  go_wp2_with fail
  go_loopg [9] N (fun mm y wr => ∃ i : Nat, mm + i = N ∧ y = .int .i64 (i : Int) ∧ Below w.heap.size w wr ∧ MapAt wr Tryz.prog 9 am i (nameM (sdm l) i))
  case atStart => exact ⟨0, by omega, rfl, HB1.out, HM1.out⟩
  case round =>
    obtain ⟨i, hm, rfl, hb, hmap⟩ := hrel
    have HM := Lib.hid hm; have HB := Lib.hid hb; have HMP := Lib.hid hmap
    clear hm hb hmap
    by_cases hi : i < N
    · have hil : i < l.length := by rw [HN.out]; exact hi
      obtain ⟨s, hs⟩ : ∃ s, l[i]? = some s := ⟨_, List.getElem?_eq_getElem hil⟩
      obtain ⟨hs1, hs2⟩ := HNM.out.one s (List.mem_of_getElem? hs)
      obtain ⟨sb, soff, rfl, sbl, s0⟩ := (HC.out.below HB.out).at_ (show (l.map Value.string)[i]? = some (.string s) by rw [List.getElem?_map, hs]; rfl)
      have HKEY : Hid (keyOf Tryz.prog 9 (.string s) = some (.string s.data.toList)) := Lib.hid (WideMaps.keyOf_string_mk Tryz.underlying9 (by unfold maxLen; omega))
      have hnew := nmS_new HNM.out.nod hs
      have hrl := run_mlook 112 4 (Maps.string_keyed Tryz.underlying9) Tryz.underlying112 (zeroB _) HMP.out _ _ HKEY.out
      have hat : atF (nameM (sdm l) i) (.string s.data.toList) (.bool false) = .bool false := by unfold atF; rw [hnew]; rfl
      rw [hat] at hrl
      have HCN : Hid ((if (nameM (sdm l) i (.string s.data.toList)).isSome then i else i + 1) = i + 1) := Lib.hid (by rw [hnew]; rfl)
      have him : i < maxLen := by unfold maxLen; omega
      have hid : decide (((i : Nat) : Int) < ((N : Nat) : Int)) = true := decide_eq_true (by omega)
      have hip : ((i : Nat) : Int) < ((N : Nat) : Int) := by omega
      have hip0 : (0 : Int) ≤ ((i : Nat) : Int) := by omega
      have hne : s.toList.isEmpty = false := by
        rw [List.isEmpty_eq_false_iff]
        intro e
        have : s.size = 0 := by rw [Lib.size_eq, ← Lib.toList_data, e]; rfl
        omega
      have hsd : decide ((16 : Int) < ((s.size : Nat) : Int)) = false := decide_eq_false (by omega)
      have HS := Lib.hid hs; have HI := Lib.hid hi
      clear hnew hat hs hil hi
      go_wp2_with (at_mapUpdate; refine wpList_msetn rfl (.tmp 25) (.tmp 26) (.const (.bool true)) 112 rfl 4 (Maps.string_keyed Tryz.underlying9) Tryz.underlying112 rfl HMP.out him _ _ _ rfl rfl HKEY.out _ HCN.out ?_)
      intro w3 hm3 hg3
      have HMP3 : Hid (MapAt w3 Tryz.prog 9 am (i + 1) (nameM (sdm l) (i + 1))) := Lib.hid (by rw [← nameM_set (sdm_at HS.out)]; exact hm3)
      have HB3 := Lib.hid (HB.out.grown hg3 HB.out.size (fun j e => by injection e with e; have := HAM.out; omega))
      clear hm3 hg3
      go_wp2_with fail
      go_roundg (N - (i + 1))
      case measure => have := HM.out; have := HI.out; omega
      case rel => exact ⟨i + 1, by have := HM.out; have := HI.out; omega, by have := HI.out; rfl, HB3.out, HMP3.out⟩
    · have hi2 : i = N := by have := HM.out; omega
      have hid : decide (((i : Nat) : Int) < ((N : Nat) : Int)) = false := decide_eq_false (by omega)
      have hn8 : decide (((N : Nat) : Int) ≤ 8) = true := decide_eq_true (by omega)
      clear hi
      go_wp2_with fail
      go_ret
      exact ⟨rfl, HB.out⟩
end Go.Proofs.YtobhjkfkdkiigaaGreatDoor

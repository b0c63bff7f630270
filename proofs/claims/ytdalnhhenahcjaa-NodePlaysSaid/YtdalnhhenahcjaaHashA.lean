/- The contracts of layer 2's inner functions: (*hash.Table).start and find. -/
import Derived.Test.YtdalnhhenahcjaaBase
import Derived.Test.YtdalnhhenahcjaaHashP
import Derived.Test.YtdalnhhenahcjaaArr
namespace Go.Proofs.Ytdalnhhenahcjaa
open Go.RowKit HP

/-! ### the first place of a key -/
def hmix (x a : Int) : Int := IntKind.u64.wrap (bits .xor .u64 x (IntKind.u64.wrap a) * 11400714819323198485)
def hstep (x a : Int) : Int := bits .xor .u64 (hmix x a) (hmix x a / 536870912)
theorem hstep_eq (x a : Int) : hstep x a = bits .xor .u64 (IntKind.u64.wrap (bits .xor .u64 x (IntKind.u64.wrap a) * 11400714819323198485)) (IntKind.u64.wrap (bits .xor .u64 x (IntKind.u64.wrap a) * 11400714819323198485) / 536870912) := by unfold hstep hmix; rfl
def hsum (c : Key) : Int := hstep (hstep (hstep 0 c.1) c.2.1) c.2.2
def hpart (c : Key) : Nat → Int
  | 0 => 0
  | 1 => hstep 0 c.1
  | 2 => hstep (hstep 0 c.1) c.2.1
  | _ => hsum c
theorem hpart_z (a b d : Int) : Hid ((0 : Int) = hpart (a, b, d) 0) := by unfold hpart; rfl
theorem hpart_0 (a b d x : Int) (h : x = hpart (a, b, d) 0) : Hid (hstep x a = hpart (a, b, d) 1) := by rw [h]; rfl
theorem hpart_1 (a b d x : Int) (h : x = hpart (a, b, d) 1) : Hid (hstep x b = hpart (a, b, d) 2) := by rw [h]; rfl
theorem hpart_2 (a b d x : Int) (h : x = hpart (a, b, d) 2) : Hid (hstep x d = hpart (a, b, d) 3) := by rw [h]; rfl
def st (N : Nat) (c : Key) : Nat := (bits .and .u64 (hsum c) ((N : Int) - 1)).toNat
theorem u64_and_le (x : Int) (b : Nat) (hb : b < 18446744073709551616) : ∃ k : Nat, bits .and .u64 x (b : Int) = (k : Int) ∧ k ≤ b := by
  refine ⟨(BitVec.ofInt 64 x).toNat &&& b, ?_, Nat.and_le_right⟩
  show IntKind.u64.wrap ((BitVec.ofInt 64 x &&& BitVec.ofInt 64 (b : Int)).toNat : Int) = _
  rw [BitVec.toNat_and, BitVec.ofInt_natCast, BitVec.toNat_ofNat, Nat.mod_eq_of_lt (by simpa using hb)]
  have h : (BitVec.ofInt 64 x).toNat &&& b ≤ b := Nat.and_le_right
  show (((BitVec.ofInt 64 x).toNat &&& b : Nat) : Int) % 18446744073709551616 = _
  omega
theorem st_lt (N : Nat) (c : Key) (h : 0 < N) (h2 : N ≤ 4194304) : st N c < N ∧ wrap64 (bits .and .u64 (hsum c) ((N : Int) - 1)) = (st N c : Nat) := by
  obtain ⟨k, e, hk⟩ := u64_and_le (hsum c) (N - 1) (by omega)
  rw [show ((N - 1 : Nat) : Int) = (N : Int) - 1 by omega] at e
  unfold st
  rw [e, Int.toNat_natCast]
  exact ⟨by omega, IntWalk.wrap64_in _ ⟨by omega, by omega⟩⟩

/-- the value of a key -/
def kv (c : Key) : Value := .agg #[.int .i64 c.1, .int .i64 c.2.1, .int .i64 c.2.2]
theorem run_index3 (a b c : Value) (i : Nat) (v : Value) (h : #[a, b, c][i]? = some v) (hi : i < 3) (w : World) : (Instr.index 26 (.agg #[a, b, c]) (.int .i64 (i : Int))).run Try.prog w = .ok v w := by
  rcases (by omega : i = 0 ∨ i = 1 ∨ i = 2) with rfl | rfl | rfl <;> (simp at h; subst h; kernel_rfl)

set_option maxHeartbeats 400000 in
theorem start_ok (p g N : Nat) (u n : Value) (c : Key) (w : World) (hN : N ≤ 4194304) (hN0 : 16 ≤ N) (hp : Blk w p 54 #[.slice (some ⟨g, 0, none⟩) N N, n, u]) :
    Calls Try.prog 61 #[.pointer (some ⟨p, 0, none⟩), .agg #[.int .i64 c.1, .int .i64 c.2.1, .int .i64 c.2.2]] w fun e w' => e = .returned (.int .i64 (st N c : Nat)) ∧ Below w.heap.size w w' := by
  have hp0 := hp.cell 0
  have hplt := hp.lt
  simp only [List.getElem?_toArray, List.getElem?_cons_zero] at hp0
  have hst := Lib.hid (st_lt N c (by omega) hN)
  obtain ⟨a, b, d⟩ := c
  have i0 : ∀ w, (Instr.index 26 (.agg #[.int .i64 a, .int .i64 b, .int .i64 d]) (.int .i64 0)).run Try.prog w = .ok (.int .i64 a) w := fun w => run_index3 (.int .i64 a) (.int .i64 b) (.int .i64 d) 0 _ rfl (by omega) w
  have i1 : ∀ w, (Instr.index 26 (.agg #[.int .i64 a, .int .i64 b, .int .i64 d]) (.int .i64 1)).run Try.prog w = .ok (.int .i64 b) w := fun w => run_index3 (.int .i64 a) (.int .i64 b) (.int .i64 d) 1 _ rfl (by omega) w
  have i2 : ∀ w, (Instr.index 26 (.agg #[.int .i64 a, .int .i64 b, .int .i64 d]) (.int .i64 2)).run Try.prog w = .ok (.int .i64 d) w := fun w => run_index3 (.int .i64 a) (.int .i64 b) (.int .i64 d) 2 _ rfl (by omega) w
  go_enter Try.func61, Try.ntmps61
  go_wp2
  go_loop [5, 9] (fun n i => ∃ k : Nat, k ≤ 3 ∧ i = .int .i64 k ∧ ∃ x : Int, n = .int .u64 x ∧ Hid (x = hpart (a, b, d) k)) (fun _ i => 3 - (intOf i).toNat)
  case atStart => exact ⟨0, by omega, rfl, 0, rfl, hpart_z a b d⟩
  case round =>
    obtain ⟨k, hk, rfl, x, rfl, hx⟩ := hrel
    rcases (by omega : k = 0 ∨ k = 1 ∨ k = 2 ∨ k = 3) with rfl | rfl | rfl | rfl
    · go_wp2
      go_round
      case rel => exact ⟨1, by omega, rfl, hstep x a, congrArg (Value.int .u64) (hstep_eq x a).symm, hpart_0 _ _ _ _ hx.out⟩
      case measure => simp [intOf]
    · go_wp2
      go_round
      case rel => exact ⟨2, by omega, rfl, hstep x b, congrArg (Value.int .u64) (hstep_eq x b).symm, hpart_1 _ _ _ _ hx.out⟩
      case measure => simp [intOf]
    · go_wp2
      go_round
      case rel => exact ⟨3, by omega, rfl, hstep x d, congrArg (Value.int .u64) (hstep_eq x d).symm, hpart_2 _ _ _ _ hx.out⟩
      case measure => simp [intOf]
    · go_wp2
      go_ret
      exact ⟨ret_int (by rw [hx.out]; exact hst.out.2), (Below.refl _ _).alloc (Nat.le_refl _) _⟩

/-! ### the places in memory -/
def Places (w : World) (g N : Nat) (L : Nat → Pl) : Prop := ∃ cs : Array Value, Blk w g 96 cs ∧ cs.size = N * 5 ∧
  ∀ i, i < N → cs[i * 5]? = some (.int .i64 (L i).how) ∧ cs[i * 5 + 1]? = some (.int .i64 (L i).key.1) ∧ cs[i * 5 + 2]? = some (.int .i64 (L i).key.2.1) ∧ cs[i * 5 + 3]? = some (.int .i64 (L i).key.2.2) ∧ cs[i * 5 + 4]? = some (.int .i64 (L i).v)
theorem Places.lt {w : World} {g N : Nat} {L : Nat → Pl} (h : Places w g N L) : g < w.heap.size := by obtain ⟨cs, hb, _⟩ := h; exact hb.lt
theorem Places.at_ {w : World} {g N : Nat} {L : Nat → Pl} (h : Places w g N L) {i : Nat} (hi : i < N) :
    w.cell? ⟨g, i * 5, none⟩ = some (.int .i64 (L i).how) ∧ w.cell? ⟨g, i * 5 + 1, none⟩ = some (.int .i64 (L i).key.1) ∧ w.cell? ⟨g, i * 5 + 2, none⟩ = some (.int .i64 (L i).key.2.1) ∧
      w.cell? ⟨g, i * 5 + 3, none⟩ = some (.int .i64 (L i).key.2.2) ∧ w.cell? ⟨g, i * 5 + 4, none⟩ = some (.int .i64 (L i).v) := by
  obtain ⟨cs, hb, _, hc⟩ := h
  obtain ⟨h0, h1, h2, h3, h4⟩ := hc i hi
  exact ⟨(hb.cell _).trans h0, (hb.cell _).trans h1, (hb.cell _).trans h2, (hb.cell _).trans h3, (hb.cell _).trans h4⟩
theorem Places.keep {w w' : World} {g N : Nat} {L : Nat → Pl} (h : Places w g N L) (hk : w'.heap[g]? = w.heap[g]?) : Places w' g N L := by
  obtain ⟨cs, hb, r⟩ := h
  exact ⟨cs, hk.trans hb, r⟩
theorem Places.below {w w' : World} {g N B : Nat} {L : Nat → Pl} (h : Places w g N L) (hb : Below B w w') (hg : g < B) : Places w' g N L := h.keep (hb.block g hg)

/-- what find leaves -/
def FindPost (N : Nat) (L : Nat → Pl) (c : Key) (w : World) (e : Ending) (w' : World) : Prop :=
  ∃ k b, e = .returned (.tuple #[.int .i64 ((k : Nat) : Int), .bool b]) ∧ HP.Found (st N) L N c k b ∧ Below w.heap.size w w'

theorem and_ring (j k : Nat) (hj : j ≤ 22) (hk : k < 2 ^ j) : bits .and .i64 ((k : Int) + 1) (((2 ^ j : Nat) : Int) - 1) = (((k + 1) % 2 ^ j : Nat) : Int) := by
  have hp : 2 ^ j ≤ 2 ^ 22 := Nat.pow_le_pow_right (by decide) hj
  have h0 := Nat.one_le_two_pow (n := j)
  have e22 : (2 : Nat) ^ 22 = 4194304 := by decide
  have hx : (k + 1) &&& (2 ^ j - 1) = (k + 1) % 2 ^ j := Nat.and_two_pow_sub_one_eq_mod _ _
  have hlt : (k + 1) % 2 ^ j < 2 ^ j := Nat.mod_lt _ (by omega)
  rw [show ((k : Int) + 1) = ((k + 1 : Nat) : Int) by omega, show (((2 ^ j : Nat) : Int) - 1) = ((2 ^ j - 1 : Nat) : Int) by omega]
  show IntKind.i64.wrap ((BitVec.ofInt 64 ((k + 1 : Nat) : Int) &&& BitVec.ofInt 64 ((2 ^ j - 1 : Nat) : Int)).toNat : Int) = _
  rw [BitVec.toNat_and, BitVec.ofInt_natCast, BitVec.toNat_ofNat, BitVec.ofInt_natCast, BitVec.toNat_ofNat, Nat.mod_eq_of_lt (a := k + 1) (by omega), Nat.mod_eq_of_lt (a := 2 ^ j - 1) (by omega), hx, IntKind.wrap_i64]
  omega

theorem eq_keys (x c : Key) (w : World) : (Op.equalIn 10000 26 (.agg #[.int .i64 x.1, .int .i64 x.2.1, .int .i64 x.2.2]) (.agg #[.int .i64 c.1, .int .i64 c.2.1, .int .i64 c.2.2])).run Try.prog w = .ok (decide (x = c)) w := by
  rw [eq_arr3]
  obtain ⟨a, b, d⟩ := x
  obtain ⟨a', b', d'⟩ := c
  congr 1
  rw [Bool.eq_iff_iff]
  simp

set_option maxHeartbeats 1000000 in
set_option maxRecDepth 100000 in
theorem find_ok (p g N j : Nat) (u n : Value) (L : Nat → Pl) (c : Key) (w : World) (hj : N = 2 ^ j) (hj2 : j ≤ 22) (hN0 : 16 ≤ N) (hp : Blk w p 54 #[.slice (some ⟨g, 0, none⟩) N N, n, u])
    (hg : Places w g N L) (hI : Inv (st N) L N) (hE : ∃ i, i < N ∧ (L i).how = 0) :
    Calls Try.prog 46 #[.pointer (some ⟨p, 0, none⟩), .agg #[.int .i64 c.1, .int .i64 c.2.1, .int .i64 c.2.2]] w (FindPost N L c w) := by
  have hN : N ≤ 4194304 := by rw [hj]; exact Nat.pow_le_pow_right (by decide) hj2
  have HJ := Lib.hid hj; clear hj
  have hp0 := hp.cell 0
  have hplt := hp.lt
  have hglt := hg.lt
  have hst := (st_lt N c (by omega) hN).1
  simp only [List.getElem?_toArray, List.getElem?_cons_zero] at hp0
  go_enter Try.func46, Try.ntmps46
  go_wp2_with (go_at_call 61; refine (start_ok p g N u n c _ hN hN0 (hp.alloc_ _)).mono ?_; rintro e w1 ⟨rfl, hb1⟩)
  have hbk : Blk w1 w.heap.size 26 #[.int .i64 c.1, .int .i64 c.2.1, .int .i64 c.2.2] := (Blk.new_ w _ _).below hb1 (by simp)
  have hbel : Below w.heap.size w w1 := ((Below.refl _ _).alloc (Nat.le_refl _) _).trans (hb1.mono (by simp))
  clear hb1 hp0
  go_loopg [6, 7] N (fun m f i wr => ∃ (d : Nat) (f' : Int), m + d = N ∧ Seek (st N) L N c d f' ∧ i = .int .i64 (((st N c + d) % N : Nat) : Int) ∧ f = .int .i64 f' ∧ Below w.heap.size w wr ∧ Blk wr w.heap.size 26 #[.int .i64 c.1, .int .i64 c.2.1, .int .i64 c.2.2])
  case atStart => exact ⟨0, -1, rfl, Seek.start (by omega), by rw [Nat.add_zero, Nat.mod_eq_of_lt hst], rfl, hbel, hbk⟩
  case round =>
    obtain ⟨d, f', hmd, hs, rfl, rfl, hbr, hkr⟩ := hrel
    have HM := Lib.hid hmd; clear hmd
    have hk0 := hkr.cell 0
    have hk1 := hkr.cell 1
    have hk2 := hkr.cell 2
    simp only [List.getElem?_toArray, List.getElem?_cons_zero, List.getElem?_cons_succ] at hk0 hk1 hk2
    have hpr := hp.below hbr hplt
    have hp0 := hpr.cell 0
    simp only [List.getElem?_toArray, List.getElem?_cons_zero] at hp0
    have hil : (st N c + d) % N < N := Nat.mod_lt _ (by omega)
    have hgr := hg.below hbr hglt
    obtain ⟨i, hi⟩ : ∃ i, i = (st N c + d) % N := ⟨_, rfl⟩
    rw [← hi] at hil
    have Hi := Lib.hid hi
    rw [← hi]
    clear hi
    obtain ⟨q0, q1, q2, q3, q4⟩ := hgr.at_ hil
    have hglr : g < wr.heap.size := by have := hbr.size; omega
    have hplr : p < wr.heap.size := by have := hbr.size; omega
    have hklr : w.heap.size < wr.heap.size := hkr.lt
    have hkn := hI.kinds i hil
    have hkey := eq_keys (L i).key c
    have hgd : ∀ (x y : Operand) (a b d a' b' d' : Value) (w : World), (eqGuard .eql 26 x y (.agg #[a, b, d]) (.agg #[a', b', d'])).run Try.prog w = .ok () w := fun x y a b d a' b' d' w => guard_arr3 x y _ _ w
    have hnb : Below w.heap.size w wr → ∀ o, Below w.heap.size w (wr.alloc o) := fun h o => h.alloc (by omega) o
    have HB := Lib.hid (hbr.alloc (o := Obj.cells #[.int .i64 (L i).how, .int .i64 (L i).key.1, .int .i64 (L i).key.2.1, .int .i64 (L i).key.2.2, .int .i64 (L i).v] 96) (by omega))
    have HK := Lib.hid (hkr.alloc_ (Obj.cells #[.int .i64 (L i).how, .int .i64 (L i).key.1, .int .i64 (L i).key.2.1, .int .i64 (L i).key.2.2, .int .i64 (L i).v] 96))
    have HE := Lib.hid hE
    have HI := Lib.hid hI
    have HA : Hid (bits .and .i64 ((i : Int) + 1) ((N : Int) - 1) = (((st N c + (d + 1)) % N : Nat) : Int)) := by
      have h1 := and_ring j i hj2 (by rw [← HJ.out]; exact hil)
      rw [← HJ.out, Hi.out, ring_next] at h1
      rw [Hi.out]; exact h1
    have HS := Lib.hid hs
    clear hp hg hgr hpr hbk hbel hkr hE hI hbr hs hnb
    rcases hkn with h0 | h1 | h2
    · by_cases hf : f' < 0
      · have HH := Lib.hid h0
        go_wp2
        go_ret2
        exact ⟨i, false, rfl, by have hx := HS.out.here HI.out (by rw [← Hi.out]; exact HH.out); rwa [← Hi.out] at hx, by rw [HH.out] at HB; exact HB.out⟩
      · obtain ⟨k', rfl⟩ := Int.eq_ofNat_of_zero_le (show 0 ≤ f' by omega)
        have HH := Lib.hid h0
        go_wp2
        go_ret2
        exact ⟨k', false, rfl, HS.out.free_ HI.out (by rw [← Hi.out]; exact HH.out), by rw [HH.out] at HB; exact HB.out⟩
    · by_cases hk : (L i).key = c
      · have hkd : decide ((L i).key = c) = true := decide_eq_true hk
        have HK2 := Lib.hid hk; have HH := Lib.hid h1; clear hk
        go_wp2
        go_ret2
        exact ⟨i, true, rfl, by have hx := HS.out.yes (by rw [← Hi.out]; exact HH.out) (by rw [← Hi.out]; exact HK2.out); rwa [← Hi.out] at hx, by rw [HH.out] at HB; exact HB.out⟩
      · have hkd : decide ((L i).key = c) = false := decide_eq_false hk
        have HK2 := Lib.hid hk; have HH := Lib.hid h1; clear hk
        have HL := Lib.hid (HS.out.lt HE.out (by rw [← Hi.out, HH.out]; decide))
        have HN := Lib.hid (HS.out.next HE.out (by rw [← Hi.out, HH.out]; decide) (by rw [← Hi.out]; exact fun h => HK2.out h.2) f' (.inl rfl))
        go_wp2
        go_roundg (N - (d + 1))
        case measure => have := HM.out; have := HL.out; omega
        case rel => exact ⟨d + 1, f', by have := HL.out; omega, HN.out, by rw [HA.out], rfl, by rw [HH.out] at HB; exact HB.out, by rw [HH.out] at HK; exact HK.out⟩
    · by_cases hf : f' < 0
      · have HH := Lib.hid h2
        have HL := Lib.hid (HS.out.lt HE.out (by rw [← Hi.out, HH.out]; decide))
        have HN := Lib.hid (HS.out.next HE.out (by rw [← Hi.out, HH.out]; decide) (by rw [← Hi.out, HH.out]; exact fun h => by omega) (((st N c + d) % N : Nat) : Int) (.inr ⟨rfl, by rw [← Hi.out]; exact HH.out⟩))
        go_wp2
        go_roundg (N - (d + 1))
        case measure => have := HM.out; have := HL.out; omega
        case rel => exact ⟨d + 1, _, by have := HL.out; omega, HN.out, by rw [HA.out], by rw [Hi.out], by rw [HH.out] at HB; exact HB.out, by rw [HH.out] at HK; exact HK.out⟩
      · have HH := Lib.hid h2
        have HL := Lib.hid (HS.out.lt HE.out (by rw [← Hi.out, HH.out]; decide))
        have HN := Lib.hid (HS.out.next HE.out (by rw [← Hi.out, HH.out]; decide) (by rw [← Hi.out, HH.out]; exact fun h => by omega) f' (.inl rfl))
        go_wp2
        go_roundg (N - (d + 1))
        case measure => have := HM.out; have := HL.out; omega
        case rel => exact ⟨d + 1, f', by have := HL.out; omega, HN.out, by rw [HA.out], rfl, by rw [HH.out] at HB; exact HB.out, by rw [HH.out] at HK; exact HK.out⟩
end Go.Proofs.Ytdalnhhenahcjaa

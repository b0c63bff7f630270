/- OperSwept: the walk. -/
import Derived.Test.YtffkehefkmdadaaOperL4
import Derived.Test.YtffkehefkmdadaaSwepP
namespace Go.Proofs.Ytffkehefkmdadaa
open Go.RowKit HP NP
theorem OpsM.alk {w : World} {B p q : Nat} {S S' : NS} (h : OpsM w B p q S) (ha : Alk S.l S'.l) (hs : S'.sweeps = S.sweeps) : OpsM w B p q S' := by
  obtain ⟨a, b, h⟩ := h
  refine ⟨a, by omega, ?_⟩
  rcases h with h | ⟨g, C, s0, c1, c2, c3, c4, c5⟩
  · exact .inl h
  · exact .inr ⟨g, C, s0, c1, c2, c3, by omega, fun e i hi => (c5 (by omega) i hi).alk ha⟩
theorem OSt.mono {w0 w : World} {B p q : Nat} {S : NS} {r r' : Nat} (h : OSt w0 w B p q S r) (hr : r' ≤ r) : OSt w0 w B p q S r' := ⟨h.sto, h.ops, h.kp, h.hB, h.h0, h.v4, by have := h.room; omega⟩
def pinned (S : NS) (k : Nat) : Prop := 0 < (nd S.l k).pins
/-- Pin of a node -/
theorem OSt.pin {w0 w : World} {B p q : Nat} {S : NS} {r : Nat} (h : OSt w0 w B p q S r) (k c : Nat) (hk : isB S.l k = true) (hc : ∀ j, (nd S.l j).pins ≤ c) (hc2 : c < 1000) :
    Calls Try.prog 45 #[.pointer (some ⟨p, 0, none⟩), .int .i64 (k : Int)] w fun e w' => e = .returned (.int .i64 0) ∧ Kp TN B w w' ∧ ∃ S' : NS, OSt w0 w' B p q S' r ∧ Alk S.l S'.l ∧ (∀ j, (nd S'.l j).pins ≤ c + 1) ∧ pinned S' k ∧ (∀ j, pinned S j → pinned S' j) ∧ S'.sweeps = S.sweeps := by
  have hp := hc k
  have hl := isB_lt hk
  have e : pinS S (k : Int) = ({ S with l := pinN S.l k ((nd S.l k).pins + 1) }, 0) := by
    unfold pinS
    rw [isK_nat, hk, if_pos rfl, Int.toNat_natCast, if_neg (by omega)]
  refine (npin_ok w B p S h.sto (k : Int)).mono ?_
  rintro e' w' ⟨rfl, hs, hk3⟩
  rw [e] at hs ⊢
  have ha := Alk.pin hl ((nd S.l k).pins + 1)
  refine ⟨rfl, hk3, _, ⟨hs, (h.ops.kb hk3.kb rfl rfl).alk ha rfl, h.kp.trans (hk3.mono to_tn (Nat.le_refl _)), ?_, h.h0, h.v4, ?_⟩, ha, fun j => ?_, ?_, fun j hj => ?_, rfl⟩
  · have := hk3.size; have := h.hB; omega
  · show cnt (pinN _ _ _) + r ≤ S.budget
    rw [ha.cnt]; exact h.room
  · show (nd (pinN _ _ _) j).pins ≤ _
    rw [nd_pin hl]
    split
    · show (nd S.l k).pins + 1 ≤ _; omega
    · have := hc j; omega
  · show 0 < (nd (pinN _ _ _) k).pins
    rw [nd_pin hl, if_pos rfl]; show 0 < (nd S.l k).pins + 1; omega
  · show 0 < (nd (pinN _ _ _) j).pins
    rw [nd_pin hl]
    split
    · show 0 < (nd S.l k).pins + 1; omega
    · exact hj
/-- Sweep -/
theorem OSt.swept {w0 w : World} {B p q : Nat} {S : NS} {r : Nat} (h : OSt w0 w B p q S r) (hsw : S.sweeps < 1000) :
    Calls Try.prog 46 #[.pointer (some ⟨p, 0, none⟩)] w fun e w' => ∃ n : Int, e = .returned (.int .i64 n) ∧ Kp TN B w w' ∧ ∃ S' : NS, OSt w0 w' B p q S' r ∧ (∀ (k : Nat) (g : (Nat → Bool) → Bool), Den S k g → pinned S k → Den S' k g ∧ pinned S' k) ∧ S'.sweeps = S.sweeps + 1 := by
  refine (nsweep_ok w B p S h.sto h.hB).mono ?_
  rintro e w' ⟨s, hm, rfl, hs, hk⟩
  refine ⟨_, rfl, hk, swS S s, ⟨hs, (h.ops.kb hk.kb rfl rfl).sweep (by show S.sweeps < S.sweeps + 1; omega) (by show S.sweeps + 1 < _; omega), h.kp.trans (hk.mono to_tn (Nat.le_refl _)), ?_, h.h0, h.v4, ?_⟩, fun k g hd hp => swS_den h.wf hs.wf hm hd hp, rfl⟩
  · have := hk.size; have := h.hB; omega
  · have := cnt_swp_le S.l s 1; have := h.room; show cnt (swp S.l s 1) + r ≤ S.budget; omega
theorem Got.pinned {S S' : NS} {g : (Nat → Bool) → Bool} {k : Nat} (h : Got S S' g k) {j : Nat} (hj : isB S.l j = true) (hp : pinned S j) : pinned S' j := by unfold Go.Proofs.Ytffkehefkmdadaa.pinned; rw [h.ext.nds j hj]; exact hp
/-- the law's state: of the first i numbers the nodes are made and pinned -/
structure Sw (w wr : World) (p q lb : Nat) (S : NS) (r i c sw : Nat) (z : Nat → Int) (a x : Nat → Nat) : Prop where
  ost : OSt w wr w.heap.size p q S r
  arr : Blk wr w.heap.size 22 #[.int .i64 (z 0), .int .i64 (z 1), .int .i64 (z 2)]
  box : ∃ u0 u1 u2, Blk wr lb 22 #[u0, u1, u2] ∧ ∀ j, j < i → #[u0, u1, u2][j]? = some (.int .i64 (x j : Int))
  ne : w.heap.size ≠ lb
  ge : w.heap.size ≤ lb
  den : ∀ j, j < i → Den S (x j) (tbl (a j)) ∧ pinned S (x j)
  pins : ∀ j, (nd S.l j).pins ≤ c
  sw : S.sweeps = sw
theorem Sw.at_ {w wr : World} {p q lb : Nat} {S : NS} {r i c sw : Nat} {z : Nat → Int} {a x : Nat → Nat} (h : Sw w wr p q lb S r i c sw z a x) {j : Nat} (hj : j < 3) : wr.cell? ⟨w.heap.size, j, none⟩ = some (.int .i64 (z j)) := by
  rcases (by omega : j = 0 ∨ j = 1 ∨ j = 2) with rfl | rfl | rfl
  · exact h.arr.cell 0
  · exact h.arr.cell 1
  · exact h.arr.cell 2
theorem Sw.below {w wr w' : World} {p q lb : Nat} {S : NS} {r i c sw : Nat} {z : Nat → Int} {a x : Nat → Nat} (h : Sw w wr p q lb S r i c sw z a x) (hb : Below wr.heap.size wr w') : Sw w w' p q lb S r i c sw z a x := by
  obtain ⟨u0, u1, u2, h1, h2⟩ := h.box
  exact ⟨h.ost.below hb, h.arr.below hb h.arr.lt, ⟨u0, u1, u2, h1.below hb h1.lt, h2⟩, h.ne, h.ge, h.den, h.pins, h.sw⟩
/-- another node made -/
theorem Sw.make {w wr w' : World} {p q lb : Nat} {S : NS} {r i c sw : Nat} {z : Nat → Int} {a x : Nat → Nat} (h : Sw w wr p q lb S r i c sw z a x) {X : Nat} {e : Ending} (hr : MakePost w.heap.size p S X wr e w') (hn : 15 ≤ r) :
    ∃ (S' : NS) (k : Nat), e = .returned (.tuple #[.int .i64 (k : Int), .bool true]) ∧ Sw w w' p q lb S' (r - 15) i c sw z a x ∧ Den S' k (tbl X) := by
  have hk : Kp TN w.heap.size wr w' := by obtain ⟨_, _, h3, _⟩ := hr; exact h3
  have hs : ∀ S', Sto w' w.heap.size p S' → True := fun _ _ => trivial
  have hsw : ∃ S', Sto w' w.heap.size p S' ∧ (∃ k : Nat, e = .returned (.tuple #[.int .i64 (k : Int), .bool true]) ∧ GotOk S (tbl X) 15 S' k) ∨ ¬ 15 ≤ r := by
    obtain ⟨S', h1, _, h4⟩ := hr
    refine ⟨S', ?_⟩
    rcases h4 with ⟨k, h5, h6⟩ | ⟨_, h6⟩
    · exact .inl ⟨h1, k, h5, h6⟩
    · have := h6.room; have := h.ost.room; right; omega
  obtain ⟨S', ⟨h1, k, h5, h6⟩ | h7⟩ := hsw
  · obtain ⟨u0, u1, u2, b1, b2⟩ := h.box
    refine ⟨S', k, h5, ⟨⟨h1, (h.ost.ops.kb hk.kb rfl rfl).ext h6.ext h.ost.wf h1.wf h6.sw, h.ost.kp.trans (hk.mono to_tn (Nat.le_refl _)), ?_, h.ost.h0, h6.ext.vars.trans h.ost.v4, ?_⟩, hk.blk h.arr rfl, ⟨u0, u1, u2, hk.blk b1 rfl, b2⟩, h.ne, h.ge, fun j hj => ?_, fun j => Nat.le_trans (h6.pin j) (h.pins j), h6.sw.trans h.sw⟩, h6.den⟩
    · have := hk.size; have := h.ost.hB; omega
    · have := h6.cnt; have := h.ost.room; rw [h6.ext.budget]; omega
    · obtain ⟨d1, d2⟩ := h.den j hj
      exact ⟨d1.ext h6.ext h.ost.wf h1.wf, by unfold pinned; rw [h6.ext.nds _ d1.is]; exact d2⟩
  · exact absurd hn h7
/-- an operation done -/
theorem Sw.does {w wr w' : World} {p q lb : Nat} {S : NS} {r i c sw : Nat} {z : Nat → Int} {a x : Nat → Nat} (h : Sw w wr p q lb S r i c sw z a x) {g : (Nat → Bool) → Bool} {e : Ending} (hr : OpPost w.heap.size p q S g 30 wr e w') (hn : 30 ≤ r) :
    ∃ (S' : NS) (k : Nat), e = .returned (.tuple #[.int .i64 (k : Int), .int .i64 0]) ∧ Sw w w' p q lb S' (r - 30) i c sw z a x ∧ Den S' k g := by
  obtain ⟨S1, h1, h2, hk, h4⟩ := hr
  have hroom := h.ost.room
  rcases h4 with ⟨k, h5, h6⟩ | ⟨_, h6⟩
  · obtain ⟨u0, u1, u2, b1, b2⟩ := h.box
    refine ⟨S1, k, h5, ⟨⟨h1, h2, h.ost.kp.trans hk, ?_, h.ost.h0, h6.ext.vars.trans h.ost.v4, ?_⟩, hk.blk h.arr rfl, ⟨u0, u1, u2, hk.blk b1 rfl, b2⟩, h.ne, h.ge, fun j hj => ?_, fun j => Nat.le_trans (h6.pin j) (h.pins j), h6.sw.trans h.sw⟩, h6.den⟩
    · have := hk.size; have := h.ost.hB; omega
    · have := h6.cnt; rw [h6.ext.budget]; omega
    · obtain ⟨d1, d2⟩ := h.den j hj
      exact ⟨d1.ext h6.ext h.ost.wf h1.wf, by unfold pinned; rw [h6.ext.nds _ d1.is]; exact d2⟩
  · have := h6.room; omega
/-- a pin more, and the node laid into the box -/
theorem Sw.pin {w wr : World} {p q lb : Nat} {S : NS} {r i sw : Nat} {z : Nat → Int} {a x : Nat → Nat} (h : Sw w wr p q lb S r i i sw z a x) {k : Nat} (hi : i < 3) (hd : Den S k (tbl (a i))) :
    Calls Try.prog 45 #[.pointer (some ⟨p, 0, none⟩), .int .i64 (k : Int)] wr fun e w' => e = .returned (.int .i64 0) ∧ lb < w'.heap.size ∧ (∃ u, w'.cell? ⟨lb, i, none⟩ = some u) ∧ w'.frozen? ⟨lb, i, none⟩ = false ∧ ∃ S' : NS, Sw w (w'.setCell ⟨lb, i, none⟩ (.int .i64 (k : Int))) p q lb S' r (i + 1) (i + 1) sw z a (fun j => if j = i then k else x j) := by
  refine (h.ost.pin k i hd.is h.pins (by omega)).mono ?_
  rintro e w' ⟨rfl, hk, S', ho, ha, hp, hpk, hps, hsw⟩
  obtain ⟨u0, u1, u2, b1, b2⟩ := h.box
  have c1 := hk.blk b1 rfl
  have hfar := (hk.blk h.arr rfl).far (p := ⟨lb, i, none⟩) h.ne (.int .i64 (k : Int))
  have hset := c1.set_ i (.int .i64 (k : Int))
  have hold : ∀ j, j < i → Den S' (x j) (tbl (a j)) ∧ pinned S' (x j) := fun j hj => ⟨(h.den j hj).1.alk ha, hps _ (h.den j hj).2⟩
  have hkc : Kp (fun t => t == 22) w.heap.size w' (w'.setCell ⟨lb, i, none⟩ (.int .i64 (k : Int))) := Kp.set c1 (by rfl) h.ge _ _
  refine ⟨rfl, c1.lt, ?_, c1.frozen i, S', ⟨⟨?_, ?_, ?_, ?_, ho.h0, ho.v4, ho.room⟩, hfar, ?_, h.ne, h.ge, fun j hj => ?_, hp, hsw.trans h.sw⟩⟩
  · rcases (by omega : i = 0 ∨ i = 1 ∨ i = 2) with rfl | rfl | rfl
    · exact ⟨u0, c1.cell 0⟩
    · exact ⟨u1, c1.cell 1⟩
    · exact ⟨u2, c1.cell 2⟩
  · exact ho.sto.kp hkc rfl rfl rfl rfl rfl
  · exact ho.ops.kb hkc.kb rfl rfl
  · refine ⟨ho.kp.os, ho.kp.tape, ho.kp.output, by simpa [World.setCell] using ho.kp.size, fun b hb hn => ?_⟩
    have hbl : b ≠ lb := by
      rintro rfl
      exact absurd hb (by have := h.ge; omega)
    exact (Below.heap_setCell w' ⟨lb, i, none⟩ _ b hbl).trans (ho.kp.block b hb hn)
  · simpa [World.setCell] using ho.hB
  · rcases (by omega : i = 0 ∨ i = 1 ∨ i = 2) with rfl | rfl | rfl
    · refine ⟨_, _, _, hset, fun j hj => ?_⟩
      obtain rfl : j = 0 := by omega
      simp
    · refine ⟨_, _, _, hset, fun j hj => ?_⟩
      rcases (by omega : j = 0 ∨ j = 1) with rfl | rfl
      · simpa using b2 0 (by omega)
      · simp
    · refine ⟨_, _, _, hset, fun j hj => ?_⟩
      rcases (by omega : j = 0 ∨ j = 1 ∨ j = 2) with rfl | rfl | rfl
      · simpa using b2 0 (by omega)
      · simpa using b2 1 (by omega)
      · simp
  · by_cases e : j = i
    · subst e
      simp only [if_true]
      exact ⟨hd.alk ha, hpk⟩
    · simp only [if_neg e]
      exact hold j (by omega)
/-- a sweep more -/
theorem Sw.sweep {w wr : World} {p q lb : Nat} {S : NS} {r i c sw : Nat} {z : Nat → Int} {a x : Nat → Nat} (h : Sw w wr p q lb S r i c sw z a x) (hsw : sw < 1000) :
    Calls Try.prog 46 #[.pointer (some ⟨p, 0, none⟩)] wr fun e w' => ∃ n : Int, e = .returned (.int .i64 n) ∧ ∃ S' : NS, Sw w w' p q lb S' r i 1073741824 (sw + 1) z a x := by
  refine (h.ost.swept (by rw [h.sw]; exact hsw)).mono ?_
  rintro e w' ⟨n, rfl, hk, S', ho, hd, hs⟩
  obtain ⟨u0, u1, u2, b1, b2⟩ := h.box
  exact ⟨n, rfl, S', ⟨ho, hk.blk h.arr rfl, ⟨u0, u1, u2, hk.blk b1 rfl, b2⟩, h.ne, h.ge, fun j hj => hd _ _ (h.den j hj).1 (h.den j hj).2, ho.wf.pins, by rw [hs, h.sw]⟩⟩
theorem low16' (z : Int) : ∃ a : Nat, bits .and .i64 (z / 8) 65535 = (a : Int) ∧ a < 65536 := low16 (z / 8)
set_option maxRecDepth 100000 in
set_option maxHeartbeats 8000000 in
theorem operSwept_walk (w : World) (z0 z1 z2 : Int) (kd : Int) (_wk : (Lit.int .i64 kd).wf = true) (sv : Int) (_ws : (Lit.int .i64 sv).wf = true) : Calls Try.prog 11 #[.agg #[.int .i64 z0, .int .i64 z1, .int .i64 z2], .int .i64 kd, .int .i64 sv] w (Fine w) := by
  obtain ⟨z, hz0, hz1, hz2⟩ : ∃ z : Nat → Int, z 0 = z0 ∧ z 1 = z1 ∧ z 2 = z2 := ⟨fun j => if j = 0 then z0 else if j = 1 then z1 else z2, rfl, rfl, rfl⟩
  obtain ⟨a, hha⟩ : ∃ a : Nat → Nat, ∀ j, bits .and .i64 (z j) 65535 = (a j : Int) ∧ a j < 65536 := ⟨fun j => (low16 (z j)).choose, fun j => (low16 (z j)).choose_spec⟩
  obtain ⟨bb, hhb⟩ : ∃ bb : Nat → Nat, ∀ j, bits .and .i64 (z j / 8) 65535 = (bb j : Int) ∧ bb j < 65536 := ⟨fun j => (low16' (z j)).choose, fun j => (low16' (z j)).choose_spec⟩
  have HA := Lib.hid hha; have HBB := Lib.hid hhb
  clear hha hhb
  obtain ⟨k0, hk, hk2⟩ := low8 kd
  have hk3 : k0 % 6 < 6 := Nat.mod_lt _ (by decide)
  have hkr : (k0 : Int) % 6 = ((k0 % 6 : Nat) : Int) := by omega
  obtain ⟨k, hkk⟩ : ∃ k, k = k0 % 6 := ⟨_, rfl⟩
  rw [← hkk] at hk3 hkr
  clear hkk
  obtain ⟨n2, hn2, hn22⟩ : ∃ n2 : Nat, bits .and .i64 sv 3 = (n2 : Int) ∧ n2 < 4 := ⟨(sv % 4).toNat, by rw [show bits .and .i64 sv 3 = sv % 4 from and_low sv 2 (by decide)]; omega, by omega⟩
  rw [← hz0, ← hz1, ← hz2]
  clear hz0 hz1 hz2
  go_enter Try.func11, Try.ntmps11
  go_wp2_with fail
  refine (begun04 _ w.heap.size 1000 (by simp) (by decide) (by decide)).mono ?_
  rintro e w1 ⟨p, q, rfl, hs, ho, hb1⟩
  have HKB := Lib.hid ((Blk.new_ w 22 #[.int .i64 (z 0), .int .i64 (z 1), .int .i64 (z 2)]).below hb1 (by simp))
  have hbb : Below w.heap.size w w1 := ((Below.refl w.heap.size w).alloc (Nat.le_refl _) _).trans (hb1.mono (by simp))
  have H1 := Lib.hid (OSt.start (r := 998) (Nat.le_refl _) hs ho hbb (by decide))
  clear hs ho hb1 hbb
  go_wp2_with fail
  obtain ⟨lb, hlb⟩ : ∃ lb, lb = w1.heap.size := ⟨_, rfl⟩
  have HLB := Lib.hid hlb
  rw [← hlb]
  clear hlb
  have hltb : w.heap.size < lb := by rw [HLB.out]; exact HKB.out.lt
  go_loopg [11] 3 (fun m u wr => ∃ (i : Nat) (S : NS) (x : Nat → Nat), m + i = 3 ∧ u = .int .i64 (i : Int) ∧ Sw w wr p q lb S (998 - 15 * i) i i 0 z a x)
  case atStart =>
    have hal := (Below.refl w1.heap.size w1).alloc (Nat.le_refl _) (.cells #[.int .i64 0, .int .i64 0, .int .i64 0] 22)
    refine ⟨0, newS 4 1000, fun _ => 0, rfl, rfl, ⟨H1.out.below hal, HKB.out.below hal HKB.out.lt, ⟨.int .i64 0, .int .i64 0, .int .i64 0, ?_, fun j hj => by omega⟩, by omega, by omega, fun j hj => by omega, fun j => ?_, rfl⟩⟩
    · rw [HLB.out]; exact Blk.new_ w1 22 #[.int .i64 0, .int .i64 0, .int .i64 0]
    · rcases Nat.lt_or_ge j 2 with hj | hj
      · rcases (by omega : j = 0 ∨ j = 1) with rfl | rfl <;> exact Nat.le_refl _
      · rw [nd_ge (by show 2 ≤ j; exact hj)]; exact Nat.le_refl _
  case round =>
    obtain ⟨i, S, x, hm, rfl, hsw⟩ := hrel
    have HM := Lib.hid hm; have HS := Lib.hid hsw
    clear hm hsw H1 HKB
    by_cases hi : i < 3
    · have hai := (HA.out i).1
      have hci := HS.out.at_ hi
      have hl0 := HS.out.arr.lt
      go_wp2_with fail
      refine (make_ok wr _ p _ (a i) (HA.out i).2 HS.out.ost.sto HS.out.ost.hB HS.out.ost.v4).mono ?_
      intro e w2 hr
      obtain ⟨S2, k2, rfl, hs2, hd2⟩ := HS.out.make hr (by omega)
      have HS2 := Lib.hid hs2; have HD2 := Lib.hid hd2
      clear hr hs2 hd2 hai hci hl0
      go_wp2_with fail
      refine (HS2.out.pin hi HD2.out).mono ?_
      rintro e w3 ⟨rfl, hl3, ⟨u3, hc3⟩, hf3, S3, hs3⟩
      have HS3 := Lib.hid hs3
      clear hs3
      go_wp2_with fail
      go_roundg (3 - (i + 1))
      case measure => have := HM.out; omega
      case rel => exact ⟨i + 1, S3, _, by have := HM.out; omega, by go_num, by rw [show 998 - 15 * (i + 1) = 998 - 15 * i - 15 by omega]; exact HS3.out⟩
    · have hi3 : i = 3 := by have := HM.out; omega
      clear hi
      subst hi3
      obtain ⟨u0, u1, u2, hbx, hu⟩ := HS.out.box
      have HBX := Lib.hid hbx
      have y0 : wr.cell? ⟨lb, 0, none⟩ = some (.int .i64 (x 0 : Int)) := (hbx.cell 0).trans (hu 0 (by omega))
      have y1 : wr.cell? ⟨lb, 1, none⟩ = some (.int .i64 (x 1 : Int)) := (hbx.cell 1).trans (hu 1 (by omega))
      have y2 : wr.cell? ⟨lb, 2, none⟩ = some (.int .i64 (x 2 : Int)) := (hbx.cell 2).trans (hu 2 (by omega))
      have yl := hbx.lt
      clear hbx hu
      obtain ⟨w3, hw3⟩ : ∃ w3, w3 = wr := ⟨_, rfl⟩
      rw [← hw3] at HS HBX y0 y1 y2 yl ⊢
      clear hw3
      go_wp2_with fail
      refine (does_ok w3 _ p q _ HS.out.ost.sto HS.out.ost.ops HS.out.ost.hB HS.out.ost.v4 k hk3 (x 0) (x 1) (x 2) _ _ _ (HS.out.den 0 (by omega)).1 (HS.out.den 1 (by omega)).1 (HS.out.den 2 (by omega)).1).mono ?_
      intro e w4 hr
      obtain ⟨S4, n, rfl, hs4, hd4⟩ := HS.out.does hr (by omega)
      have hwl := mustN_lt k (a 0) (a 1) (a 2)
      have hd4' : Den S4 n (tbl (mustN k (a 0) (a 1) (a 2))) := hd4.cong (fun ρ => (mustN_tbl k _ _ _ ρ).symm)
      have HMU := Lib.hid (fun (w' : World) => must_ok w' k (a 0) (a 1) (a 2) hk3 (HA.out 0).2 (HA.out 1).2 (HA.out 2).2)
      have HTB := Lib.hid (mustN_tbl k (a 0) (a 1) (a 2))
      obtain ⟨wt, hwt⟩ : ∃ wt, wt = mustN k (a 0) (a 1) (a 2) := ⟨_, rfl⟩
      rw [← hwt] at hwl hd4' HMU HTB
      have HS4 := Lib.hid hs4; have HD4 := Lib.hid hd4'
      clear hr hs4 hd4 hd4' hwt y0 y1 y2 yl HBX
      have hne4 := HS4.out.ge
      go_wp2_with fail
      refine (tsays_ok w4 _ p _ HS4.out.ost.sto n HD4.out.is).mono ?_
      rintro e w5 ⟨rfl, hb5⟩
      rw [tt_den HD4.out hwl]
      have HS5 := Lib.hid (HS4.out.below hb5)
      clear hb5
      go_wp2_with fail
      go_loopg [18] n2 (fun m u wr => ∃ (j c : Nat) (S : NS), m + j = n2 ∧ u = .int .i64 (j : Int) ∧ Sw w wr p q lb S (923 - 15 * j) 3 c j z a x)
      case atStart => exact ⟨0, _, S4, rfl, rfl, HS5.out⟩
      case round =>
        obtain ⟨j, c, S, hm, rfl, hsw⟩ := hrel
        have HM2 := Lib.hid hm; have HS6 := Lib.hid hsw
        clear hm hsw HS HS4 HS5
        by_cases hj : j < n2
        · have hj3 : (j : Int) % 3 = (j : Int) := by omega
          have hj4 : j < 3 := by omega
          have hbj := (HBB.out j).1
          go_wp2_with fail
          refine (HS6.out.sweep (by omega)).mono ?_
          rintro e w6 ⟨nn, rfl, S6, hs6⟩
          have HS7 := Lib.hid hs6
          have hcj := hs6.at_ hj4
          have hl6 := hs6.arr.lt
          clear hs6
          go_wp2_with fail
          refine (make_ok w6 _ p _ (bb j) (HBB.out j).2 HS7.out.ost.sto HS7.out.ost.hB HS7.out.ost.v4).mono ?_
          intro e w7 hr
          obtain ⟨S7, k7, rfl, hs7, _⟩ := HS7.out.make hr (by omega)
          have HS8 := Lib.hid hs7
          clear hr hs7 hcj hl6
          go_wp2_with fail
          go_roundg (n2 - (j + 1))
          case measure => have := HM2.out; omega
          case rel => exact ⟨j + 1, _, S7, by have := HM2.out; omega, by go_num, by rw [show 923 - 15 * (j + 1) = 923 - 15 * j - 15 by omega]; exact HS8.out⟩
        · have hj2 : j = n2 := by have := HM2.out; omega
          clear hj
          obtain ⟨u0, u1, u2, hbx, hu⟩ := HS6.out.box
          have y0 : wr.cell? ⟨lb, 0, none⟩ = some (.int .i64 (x 0 : Int)) := (hbx.cell 0).trans (hu 0 (by omega))
          have y1 : wr.cell? ⟨lb, 1, none⟩ = some (.int .i64 (x 1 : Int)) := (hbx.cell 1).trans (hu 1 (by omega))
          have y2 : wr.cell? ⟨lb, 2, none⟩ = some (.int .i64 (x 2 : Int)) := (hbx.cell 2).trans (hu 2 (by omega))
          have yl := hbx.lt
          clear hbx hu
          subst hj2
          go_wp2_with fail
          refine (does_ok wr _ p q _ HS6.out.ost.sto HS6.out.ost.ops HS6.out.ost.hB HS6.out.ost.v4 k hk3 (x 0) (x 1) (x 2) _ _ _ (HS6.out.den 0 (by omega)).1 (HS6.out.den 1 (by omega)).1 (HS6.out.den 2 (by omega)).1).mono ?_
          intro e w8 hr
          obtain ⟨S8, n8, rfl, hs8, hd8⟩ := HS6.out.does hr (by omega)
          have HR := Lib.hid (RmS.mk (hs8.ost.mono (Nat.zero_le _)) hs8.arr)
          have Dn := Lib.hid (show Den S8 n8 (tbl wt) from hd8.cong (fun ρ => (HTB.out ρ).symm))
          have HKK : Hid (∀ w', RmS w w' p q S8 (z 0) (z 1) (z 2) → w'.cell? ⟨w.heap.size, 0, none⟩ = some (.int .i64 (z 0)) ∧ w'.cell? ⟨w.heap.size, 1, none⟩ = some (.int .i64 (z 1)) ∧ w'.cell? ⟨w.heap.size, 2, none⟩ = some (.int .i64 (z 2))) := Lib.hid fun w' h => ⟨h.blk.cell 0, h.blk.cell 1, h.blk.cell 2⟩
          have xl8 := hs8.arr.lt
          have ha0 := (HA.out 0).1; have ha1 := (HA.out 1).1; have ha2 := (HA.out 2).1
          clear hr hs8 hd8 y0 y1 y2 yl
          go_wp2_with fail
          refine (HR.out.says n8 wt hwl Dn.out).mono ?_
          rintro e w9 ⟨rfl, hN9⟩
          have HR9 := Lib.hid hN9
          have q0 := (HKK.out _ hN9).1; have q1 := (HKK.out _ hN9).2.1; have q2 := (HKK.out _ hN9).2.2
          have ql9 := hN9.blk.lt
          clear hN9
          go_wp2_with fail
          refine (HMU.out w9).mono ?_
          rintro e w10 ⟨rfl, rfl⟩
          go_wp2_with fail
          refine HR9.out.awake.mono ?_
          rintro e w10 ⟨rfl, hN10⟩
          have HR10 := Lib.hid hN10
          clear hN10
          go_wp2_with fail
          go_ret
          exact ⟨rfl, HR10.out.ost.fin⟩
end Go.Proofs.Ytffkehefkmdadaa

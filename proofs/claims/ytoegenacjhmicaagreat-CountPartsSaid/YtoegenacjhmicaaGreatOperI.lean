/- The laws of layer 4: does; the state of a walk with room (OSt); awake. -/
import Derived.Test.YtoegenacjhmicaaGreatOperH
namespace Go.Proofs.YtoegenacjhmicaaGreat
open Go.RowKit HP NP
structure OSt (w0 w : World) (B p q : Nat) (S : NS) (r : Nat) : Prop where
  sto : Sto w B p S
  ops : OpsM w B p q S
  kp : Kp TO B w0 w
  hB : B ≤ w.heap.size
  h0 : B ≤ w0.heap.size
  v4 : S.vars = 4
  room : cnt S.l + r ≤ S.budget
theorem OSt.wf {w0 w : World} {B p q : Nat} {S : NS} {r : Nat} (h : OSt w0 w B p q S r) : Wf S := h.sto.wf
theorem OSt.begin {w w' : World} {p q n r : Nat} (hs : Sto w' w.heap.size p (newS 4 n)) (ho : OpsM w' w.heap.size p q (newS 4 n)) (hb : Below w.heap.size w w') (hr : 2 + r ≤ n) : OSt w w' w.heap.size p q (newS 4 n) r :=
  ⟨hs, ho, Kp.of_below hb, hb.size, Nat.le_refl _, rfl, by rw [newS_cnt]; exact hr⟩
theorem OSt.start {w0 w' : World} {B p q n r : Nat} (hB : B ≤ w0.heap.size) (hs : Sto w' B p (newS 4 n)) (ho : OpsM w' B p q (newS 4 n)) (hb : Below w0.heap.size w0 w') (hr : 2 + r ≤ n) : OSt w0 w' B p q (newS 4 n) r :=
  ⟨hs, ho, Kp.of_below hb, Nat.le_trans hB hb.size, hB, rfl, by rw [newS_cnt]; exact hr⟩
/-- what a step gave -/
structure Got (S S' : NS) (g : (Nat → Bool) → Bool) (k : Nat) : Prop where
  ext : Ext S S'
  wf : Wf S
  wf' : Wf S'
  den : Den S' k g
  pin : ∀ j, (nd S'.l j).pins ≤ (nd S.l j).pins
theorem Got.lift {S S' : NS} {g : (Nat → Bool) → Bool} {k : Nat} (h : Got S S' g k) {j : Nat} {g' : (Nat → Bool) → Bool} (hd : Den S j g') : Den S' j g' := hd.ext h.ext h.wf h.wf'
theorem OSt.got {w0 w : World} {B p q : Nat} {S : NS} {r : Nat} (h : OSt w0 w B p q S r) {g : (Nat → Bool) → Bool} {n : Nat} {e : Ending} {w' : World} (hr : OpPost B p q S g n w e w') (hn : n ≤ r) :
    ∃ (S' : NS) (k : Nat), e = .returned (.tuple #[.int .i64 (k : Int), .int .i64 0]) ∧ OSt w0 w' B p q S' (r - n) ∧ Got S S' g k := by
  obtain ⟨S', h1, h2, h3, h4⟩ := hr
  have hroom := h.room
  rcases h4 with ⟨k, h5, h6⟩ | ⟨h5, h6⟩
  · refine ⟨S', k, h5, ⟨h1, h2, h.kp.trans h3, ?_, h.h0, h6.ext.vars.trans h.v4, ?_⟩, ⟨h6.ext, h.wf, h1.wf, h6.den, h6.pin⟩⟩
    · have := h3.size; have := h.hB; omega
    · have := h6.cnt; rw [h6.ext.budget]; omega
  · have := h6.room; omega
theorem OSt.made {w0 w : World} {B p q : Nat} {S : NS} {r X : Nat} (h : OSt w0 w B p q S r) {e : Ending} {w' : World} (hr : MakePost B p S X w e w') (hn : 15 ≤ r) :
    ∃ (S' : NS) (k : Nat), e = .returned (.tuple #[.int .i64 (k : Int), .bool true]) ∧ OSt w0 w' B p q S' (r - 15) ∧ Got S S' (tbl X) k := by
  obtain ⟨S', h1, h3, h4⟩ := hr
  have hroom := h.room
  rcases h4 with ⟨k, h5, h6⟩ | ⟨h5, h6⟩
  · refine ⟨S', k, h5, ⟨h1, (h.ops.kb h3.kb rfl rfl).ext h6.ext h.wf h1.wf h6.sw, h.kp.trans (h3.mono to_tn (Nat.le_refl _)), ?_, h.h0, h6.ext.vars.trans h.v4, ?_⟩, ⟨h6.ext, h.wf, h1.wf, h6.den, h6.pin⟩⟩
    · have := h3.size; have := h.hB; omega
    · have := h6.cnt; rw [h6.ext.budget]; omega
  · have := h6.room; omega
theorem OSt.mkn {w0 w : World} {B p q : Nat} {S : NS} {r : Nat} (h : OSt w0 w B p q S r) {v lo hi : Nat} (hv : v < 4) (hl : isB S.l lo = true) (hh : isB S.l hi = true) (hvl : v < (nd S.l lo).v) (hvh : v < (nd S.l hi).v) (hn : 1 ≤ r) :
    ∃ (S' : NS) (k : Nat), (mkS S v lo hi).2 = ((k : Int), 0) ∧ (∀ w', Sto w' B p (mkS S v lo hi).1 → Kp TN B w w' → OSt w0 w' B p q S' (r - 1)) ∧ Got S S' (fun ρ => if ρ v then den S.l ρ hi else den S.l ρ lo) k := by
  have hroom := h.room
  rcases mkS_any h.wf (by rw [h.v4]; exact hv) hl hh hvl hvh with ⟨S', k, h5, h6, h7⟩ | ⟨h5, h6⟩
  · refine ⟨S', k, by rw [h5], fun w' h1 h3 => ?_, ⟨h6.ext, h.wf, h6.wf, ⟨h6.is, h6.says⟩, h6.pin⟩⟩
    rw [h5] at h1
    refine ⟨h1, (h.ops.kb h3.kb rfl rfl).ext h6.ext h.wf h6.wf h7, h.kp.trans (h3.mono to_tn (Nat.le_refl _)), ?_, h.h0, h6.ext.vars.trans h.v4, ?_⟩
    · have := h3.size; have := h.hB; omega
    · have := h6.cnt; rw [h6.ext.budget]; omega
  · omega
theorem OSt.below {w0 w w' : World} {B p q : Nat} {S : NS} {r : Nat} (h : OSt w0 w B p q S r) (hb : Below w.heap.size w w') : OSt w0 w' B p q S r :=
  ⟨h.sto.below hb, h.ops.below hb, h.kp.trans (Kp.of_below hb), Nat.le_trans h.hB hb.size, h.h0, h.v4, h.room⟩
theorem OSt.fin {w0 w : World} {p q : Nat} {S : NS} {r : Nat} (h : OSt w0 w w0.heap.size p q S r) : Below w0.heap.size w0 w := h.kp.low (Nat.le_refl _)
theorem leaf4 {S : NS} (hW : Wf S) (h4 : S.vars = 4) {k : Nat} (hk : k < 2) : (nd S.l k).v = 4 := by rw [leaf_v hW hk, h4]
theorem mkvar {w0 w : World} {B p q : Nat} {S : NS} {r : Nat} (h : OSt w0 w B p q S r) (v : Nat) (hv : v < 4) (hn : 1 ≤ r) :
    Calls Tryz.prog 24 #[.pointer (some ⟨p, 0, none⟩), .int .i64 (v : Int), .int .i64 0, .int .i64 1] w fun e w' => ∃ (S' : NS) (k : Nat), e = .returned (.tuple #[.int .i64 (k : Int), .int .i64 0]) ∧ OSt w0 w' B p q S' (r - 1) ∧ Got S S' (fun ρ => ρ v) k := by
  obtain ⟨S', k, h1, h2, h3⟩ := h.mkn (v := v) (lo := 0) (hi := 1) hv h.wf.is0 h.wf.is1 (by rw [leaf4 h.wf h.v4 (by decide)]; exact hv) (by rw [leaf4 h.wf h.v4 (by decide)]; exact hv) hn
  refine (nmk_ok w B p S h.sto h.hB (v : Int) 0 1).mono ?_
  rintro e w' ⟨rfl, hs, hk⟩
  refine ⟨S', k, ?_, h2 w' hs hk, ⟨h3.ext, h3.wf, h3.wf', h3.den.cong fun ρ => ?_, h3.pin⟩⟩
  · have e1 : (mkS S (v : Int) 0 1).2.1 = (k : Int) := congrArg Prod.fst h1
    have e2 : (mkS S (v : Int) 0 1).2.2 = 0 := congrArg Prod.snd h1
    rw [e1, e2]
  · rw [den_leaf (k := 0) _ _ (by decide), den_leaf (k := 1) _ _ (by decide)]
    cases ρ v <;> simp
end Go.Proofs.YtoegenacjhmicaaGreat

/- OperNobody: the walk. -/
import Derived.Test.YtffkehefkmdadaaOperL4
import Derived.Test.YtffkehefkmdadaaNodeO
namespace Go.Proofs.Ytffkehefkmdadaa
open Go.RowKit HP NP
set_option maxHeartbeats 400000 in
theorem onew_no (w : World) (a : Option Addr) (h : NoSt w a) : Calls Try.prog 36 #[.pointer a] w fun e w' => e = .returned (.tuple #[.pointer none, .int .i64 1]) ∧ w = w' := by
  have HL := Lib.hid (ng_len w a h)
  clear h
  go_enter Try.func36, Try.ntmps36
  go_wp2_with fail
  refine HL.out.mono ?_
  rintro e w' ⟨rfl, rfl⟩
  go_wp2_with fail
  go_ret2
  exact ⟨rfl, rfl⟩
set_option maxHeartbeats 800000 in
theorem does0_ok (w : World) (B p q : Nat) (S : NS) (h : Sto w B p S) (ho : OpsM w B p q S) (hB : B ≤ w.heap.size) (h4 : S.vars = 4) (a : Nat) (b c : Int) (ga : (Nat → Bool) → Bool) (ha : Den S a ga) :
    Calls Try.prog 31 #[.pointer (some ⟨q, 0, none⟩), .int .i64 0, .int .i64 (a : Int), .int .i64 b, .int .i64 c] w (OpPost B p q S (fun ρ => !ga ρ) 30 w) := by
  have HI := Lib.hid (onot_ok w B p q S h ho hB a ga ha 15 (by rw [h4]; decide))
  clear h ho ha h4
  go_enter Try.func31, Try.ntmps31
  go_wp2_with fail
  refine HI.out.mono ?_
  intro e w1 hr
  obtain ⟨x, y, rfl⟩ := opRet hr
  have HR := Lib.hid hr
  clear hr
  go_wp2_with fail
  go_ret2
  exact HR.out.cong (fun _ => rfl) (by decide)
theorem isK_new (n : Nat) (k : Int) : isK (newS 4 n).l k = (decide (0 ≤ k) && decide (k ≤ 1)) := by
  by_cases h : 0 ≤ k
  · obtain ⟨m, rfl⟩ : ∃ m : Nat, k = (m : Int) := ⟨k.toNat, by omega⟩
    rw [isK_nat, decide_eq_true h, Bool.true_and]
    rcases Nat.lt_or_ge m 2 with hm | hm
    · rcases (by omega : m = 0 ∨ m = 1) with rfl | rfl <;> rfl
    · rw [decide_eq_false (by omega)]
      unfold isB
      rw [nd_ge (by show 2 ≤ m; exact hm)]
      rfl
  · rw [isK_neg (by omega), decide_eq_false h]; rfl
def Ret2 (n e : Int) (B : Nat) (w : World) (x : Ending) (w' : World) : Prop := x = .returned (.tuple #[.int .i64 n, .int .i64 e]) ∧ Below B w w'
def constN (a : Nat) : (Nat → Bool) → Bool := fun _ => a == 1
theorem den_const {S : NS} (hW : Wf S) {a : Nat} (ha : a < 2) : Den S a (constN a) := by
  rcases (by omega : a = 0 ∨ a = 1) with rfl | rfl
  · exact Den.zero hW
  · exact Den.one hW
/-- an operation on leaves -/
theorem does_leaf {w0 w : World} {p q n : Nat} (h : OSt w0 w w0.heap.size p q (newS 4 n) 30) (k : Nat) (hk : k < 6) (a b : Int) (ha : 0 ≤ a ∧ a ≤ 1) (hb : k = 0 ∨ (0 ≤ b ∧ b ≤ 1)) :
    ∃ nn : Int, (nn = 0 ∨ nn = 1) ∧ Calls Try.prog 31 #[.pointer (some ⟨q, 0, none⟩), .int .i64 (k : Int), .int .i64 a, .int .i64 b, .int .i64 b] w (Ret2 nn 0 w0.heap.size w) := by
  obtain ⟨an, rfl, han⟩ : ∃ an : Nat, a = (an : Int) ∧ an < 2 := ⟨a.toNat, by omega, by omega⟩
  have fin : ∀ (v : Bool) (g : (Nat → Bool) → Bool), (∀ ρ, g ρ = v) → ∀ e w', OpPost w0.heap.size p q (newS 4 n) g 30 w e w' → Ret2 (v.toNat : Int) 0 w0.heap.size w e w' := fun v g hg e w' hr => by
    have hk3 : Kp TO w0.heap.size w w' := by obtain ⟨_, _, _, h3, _⟩ := hr; exact h3
    obtain ⟨S', k', he, ho, hgt⟩ := h.got hr (by decide)
    have : k' = v.toNat := Den.same ho.wf (hgt.den.cong hg) (by cases v; exact Den.zero ho.wf; exact Den.one ho.wf)
    rw [this] at he
    exact ⟨he, hk3.low h.hB⟩
  have val : ∀ v : Bool, ((v.toNat : Int) = 0 ∨ (v.toNat : Int) = 1) := fun v => by cases v; exact .inl rfl; exact .inr rfl
  by_cases h0 : k = 0
  · subst h0
    exact ⟨_, val _, (does0_ok w _ p q _ h.sto h.ops h.hB h.v4 an b b _ (den_const h.wf han)).mono (fin (!(an == 1)) _ fun _ => rfl)⟩
  · obtain ⟨bn, rfl, hbn⟩ : ∃ bn : Nat, b = (bn : Int) ∧ bn < 2 := ⟨b.toNat, by omega, by omega⟩
    exact ⟨_, val _, (does_ok w _ p q _ h.sto h.ops h.hB h.v4 k hk an bn bn _ _ _ (den_const h.wf han) (den_const h.wf hbn) (den_const h.wf hbn)).mono (fin (mustF k (an == 1) (bn == 1) (bn == 1)) _ fun _ => rfl)⟩
/-- behind the slice of operations that nobody made -/
structure NB4 (w : World) (s : Nat) (wr : World) : Prop where
  bel : Below w.heap.size w wr
  blk : Blk wr (s + 1 + 1) 24 #[.pointer none, .pointer (some ⟨s + 1, 0, none⟩)]
  ops : Blk wr (s + 1) 67 #[.pointer none, .int .u32 0, .int .i32 0, .int .u32 0, .slice none 0 0, .int .i64 0]
theorem NB4.below {w w' wr : World} {s : Nat} (h : NB4 w s wr) (hb : Below wr.heap.size wr w') : NB4 w s w' := ⟨h.bel.trans (hb.mono h.bel.size), h.blk.below hb h.blk.lt, h.ops.below hb h.ops.lt⟩
theorem NB4.at_ {w wr : World} {s : Nat} (h : NB4 w s wr) {i : Nat} (hi : i < 2) : ∃ oa, NoOps wr oa ∧ wr.cell? ⟨s + 1 + 1, i, none⟩ = some (.pointer oa) := by
  rcases (by omega : i = 0 ∨ i = 1) with rfl | rfl
  · exact ⟨none, .inl rfl, h.blk.cell 0⟩
  · exact ⟨_, .inr ⟨_, rfl, h.ops⟩, h.blk.cell 1⟩
set_option maxRecDepth 100000 in
set_option maxHeartbeats 8000000 in
theorem operNobody_walk (w : World) (a : Int) (_wa : (Lit.int .i64 a).wf = true) (b : Int) (_wb : (Lit.int .i64 b).wf = true) (kd : Int) (_wk : (Lit.int .i64 kd).wf = true) : Calls Try.prog 7 #[.int .i64 a, .int .i64 b, .int .i64 kd] w (Fine w) := by
  obtain ⟨k0, hk, hk2⟩ := low8 kd
  have hk3 : k0 % 6 < 6 := Nat.mod_lt _ (by decide)
  have hkr : (k0 : Int) % 6 = ((k0 % 6 : Nat) : Int) := by omega
  obtain ⟨k, hkk⟩ : ∃ k, k = k0 % 6 := ⟨_, rfl⟩
  rw [← hkk] at hk3 hkr
  clear hkk
  have HK3 := Lib.hid hk3
  go_enter Try.func7, Try.ntmps7
  go_wp2_with fail
  refine (begun04 w w.heap.size 50 (Nat.le_refl _) (by decide) (by decide)).mono ?_
  rintro e w1 ⟨p, q, rfl, hs, ho, hb1⟩
  have H1 := Lib.hid (OSt.begin (r := 30) hs ho hb1 (by decide))
  clear hs ho hb1
  -- what the operation answers
  have key : ∃ nn ee : Int, Calls Try.prog 31 #[.pointer (some ⟨q, 0, none⟩), .int .i64 (k : Int), .int .i64 a, .int .i64 b, .int .i64 b] w1 (Ret2 nn ee w.heap.size w1) ∧
      ((nn = 0 ∧ ee = 3 ∧ (a < 0 ∨ (¬ a < 0 ∧ 1 < a) ∨ (¬ a < 0 ∧ ¬ 1 < a ∧ 0 < k ∧ b < 0) ∨ (¬ a < 0 ∧ ¬ 1 < a ∧ 0 < k ∧ ¬ b < 0 ∧ 1 < b))) ∨
       (ee = 0 ∧ (nn = 0 ∨ nn = 1) ∧ ((¬ a < 0 ∧ ¬ 1 < a ∧ k = 0) ∨ (¬ a < 0 ∧ ¬ 1 < a ∧ 0 < k ∧ ¬ b < 0 ∧ ¬ 1 < b)))) := by
    have no : (isK (newS 4 50).l a = false ∨ (0 < k ∧ isK (newS 4 50).l b = false)) → Calls Try.prog 31 #[.pointer (some ⟨q, 0, none⟩), .int .i64 (k : Int), .int .i64 a, .int .i64 b, .int .i64 b] w1 (Ret2 0 3 w.heap.size w1) := fun hn =>
      (does_no w1 _ p q _ H1.out.sto H1.out.ops k hk3 a b hn).mono fun e w' ⟨h1, h2⟩ => ⟨h1, h2.mono H1.out.hB⟩
    by_cases ha : 0 ≤ a ∧ a ≤ 1
    · by_cases hb : k = 0 ∨ (0 ≤ b ∧ b ≤ 1)
      · obtain ⟨nn, h1, h2⟩ := does_leaf H1.out k hk3 a b ha hb
        exact ⟨nn, 0, h2, .inr ⟨rfl, h1, by omega⟩⟩
      · refine ⟨0, 3, no (.inr ⟨by omega, ?_⟩), .inl ⟨rfl, rfl, by omega⟩⟩
        rw [isK_new]
        by_cases h0 : 0 ≤ b
        · rw [decide_eq_false (p := b ≤ 1) (by omega), Bool.and_false]
        · rw [decide_eq_false h0, Bool.false_and]
    · refine ⟨0, 3, no (.inl ?_), .inl ⟨rfl, rfl, by omega⟩⟩
      rw [isK_new]
      by_cases h0 : 0 ≤ a
      · rw [decide_eq_false (p := a ≤ 1) (by omega), Bool.and_false]
      · rw [decide_eq_false h0, Bool.false_and]
  obtain ⟨nn, ee, hcall, hcase⟩ := key
  have HC := Lib.hid hcall
  clear hcall
  rcases hcase with ⟨rfl, rfl, h1 | ⟨h1, h2⟩ | ⟨h1, h2, h3, h4⟩ | ⟨h1, h2, h3, h4, h5⟩⟩ | ⟨rfl, rfl | rfl, ⟨h1, h2, rfl⟩ | ⟨h1, h2, h3, h4, h5⟩⟩
  all_goals
    go_wp2_with fail
    refine HC.out.mono ?_
    rintro e w2 ⟨rfl, hb2⟩
    have HB2 := Lib.hid (H1.out.fin.trans hb2)
    clear hb2
    go_wp2_with fail
    refine (onew_no w2 none (.inl rfl)).mono ?_
    rintro e w' ⟨rfl, rfl⟩
    go_wp2_with fail
    refine (onew_no _ (some ⟨w2.heap.size, 0, none⟩) (.inr ⟨w2.heap.size, rfl, Blk.new_ w2 _ _⟩)).mono ?_
    rintro e w' ⟨rfl, rfl⟩
    go_wp2_with fail
    go_loopg [19] 2 (fun m u wr => ∃ i : Nat, m + i = 2 ∧ u = .int .i64 (i : Int) ∧ NB4 w w2.heap.size wr)
    case atStart =>
      refine ⟨0, rfl, rfl, ?_, ?_, ?_⟩
      · exact ((HB2.out.alloc (by have := HB2.out.size; exact this) _).alloc (by have := HB2.out.size; simp; omega) _).alloc (by have := HB2.out.size; simp; omega) _
      · have := Blk.new_ ((w2.alloc (.cells #[.int .i64 0, .int .i64 0, .slice none 0 0, .slice none 0 0, .pointer none, .int .i64 0, .int .i64 0, .int .i64 0] 54)).alloc (.cells #[.pointer none, .int .u32 0, .int .i32 0, .int .u32 0, .slice none 0 0, .int .i64 0] 67)) 24 #[.pointer none, .pointer (some ⟨w2.heap.size + 1, 0, none⟩)]
        simpa using this
      · have := (Blk.new_ (w2.alloc (.cells #[.int .i64 0, .int .i64 0, .slice none 0 0, .slice none 0 0, .pointer none, .int .i64 0, .int .i64 0, .int .i64 0] 54)) 67 #[.pointer none, .int .u32 0, .int .i32 0, .int .u32 0, .slice none 0 0, .int .i64 0]).alloc_ (.cells #[.pointer none, .pointer (some ⟨w2.heap.size + 1, 0, none⟩)] 24)
        simpa using this
    case round =>
      obtain ⟨i, hm, rfl, hnb⟩ := hrel
      have HM := Lib.hid hm; have HN := Lib.hid hnb
      clear hm hnb
      by_cases hi : i < 2
      · obtain ⟨oa, hoa, hca⟩ := HN.out.at_ hi
        have hbl := HN.out.blk.lt
        have HO := Lib.hid hoa
        clear hoa
        go_wp2_with fail
        refine (does_nobody wr oa HO.out _ (by first | exact HK3.out | decide) a b b).mono ?_
        rintro e w4 ⟨rfl, hb4⟩
        have HN4 := Lib.hid (HN.out.below hb4)
        have hca4 : w4.cell? ⟨w2.heap.size + 1 + 1, i, none⟩ = some (.pointer oa) := (hb4.cell (p := ⟨w2.heap.size + 1 + 1, i, none⟩) hbl).trans hca
        have hbl4 := HN4.out.blk.lt
        have HO4 := Lib.hid (HO.out.below hb4)
        clear hb4
        go_wp2_with fail
        refine (nostore w4 oa HO4.out).mono ?_
        rintro e w5 ⟨rfl, rfl⟩
        go_wp2_with fail
        go_roundg (2 - (i + 1))
        case measure => have := HM.out; omega
        case rel => exact ⟨i + 1, by have := HM.out; omega, by go_num, HN4.out⟩
      · have hi2 : i = 2 := by have := HM.out; omega
        subst hi2
        go_wp2_with fail
        refine (awake04 wr).mono ?_
        rintro e w4 ⟨rfl, hb4⟩
        have HB4 := Lib.hid (HN.out.bel.trans (hb4.mono HN.out.bel.size))
        clear hb4
        go_wp2_with fail
        go_ret
        exact ⟨rfl, HB4.out⟩
end Go.Proofs.Ytffkehefkmdadaa

/- QuanNobody: the calls on Quan that nobody made. -/
import Derived.Test.YtoegenacjhmicaaQuanG
import Derived.Test.YtoegenacjhmicaaQuanV
namespace Go.Proofs.Ytoegenacjhmicaa
open Go.RowKit HP NP
set_option maxRecDepth 100000 in
set_option maxHeartbeats 1600000 in
theorem qex_nobody (w : World) (a : Option Addr) (h : NoQu w a) (k : Int) (va : Option Addr) (n c : Nat) : Calls Try.prog 17 #[.pointer a, .int .i64 k, .slice va n c] w (RetE 1 w) := by
  have HM := Lib.hid (fun (W : World) (hW : Below w.heap.size w W) (va na : Option Addr) (n c n' c' : Nat) => qmay_nobody W a (h.below hW) va na n c n' c')
  clear h
  go_enter Try.func17, Try.ntmps17
  go_wp2_with fail
  refine (HM.out _ (by repeat (first | exact Below.refl _ _ | (refine Below.alloc ?_ (by simp <;> omega) _))) _ _ _ _ _ _).mono ?_
  rintro e w1 ⟨rfl, hw1⟩
  have HB1 : Hid (Below w.heap.size w w1) := Lib.hid (by rw [← hw1]; repeat (first | exact Below.refl _ _ | (refine Below.alloc ?_ (by simp <;> omega) _)))
  clear hw1
  go_wp2_with fail
  go_ret2
  exact ⟨rfl, HB1.out⟩
set_option maxRecDepth 100000 in
set_option maxHeartbeats 1600000 in
theorem qrs_nobody (w : World) (a : Option Addr) (h : NoQu w a) (k v : Int) (b : Bool) : Calls Try.prog 16 #[.pointer a, .int .i64 k, .int .i64 v, .bool b] w (RetE 1 w) := by
  have HM := Lib.hid (fun (W : World) (hW : Below w.heap.size w W) (va na : Option Addr) (n c n' c' : Nat) => qmay_nobody W a (h.below hW) va na n c n' c')
  clear h
  go_enter Try.func16, Try.ntmps16
  go_wp2_with fail
  refine (HM.out _ (by repeat (first | exact Below.refl _ _ | (refine Below.alloc ?_ (by simp <;> omega) _))) _ _ _ _ _ _).mono ?_
  rintro e w1 ⟨rfl, hw1⟩
  have HB1 : Hid (Below w.heap.size w w1) := Lib.hid (by rw [← hw1]; repeat (first | exact Below.refl _ _ | (refine Below.alloc ?_ (by simp <;> omega) _)))
  clear hw1
  go_wp2_with fail
  go_ret2
  exact ⟨rfl, HB1.out⟩
set_option maxRecDepth 100000 in
set_option maxHeartbeats 1600000 in
theorem qprod_nobody (w : World) (a : Option Addr) (h : NoQu w a) (k l : Int) (va : Option Addr) (n c : Nat) : Calls Try.prog 19 #[.pointer a, .int .i64 k, .int .i64 l, .slice va n c] w (RetE 1 w) := by
  have HM := Lib.hid (fun (W : World) (hW : Below w.heap.size w W) (va na : Option Addr) (n c n' c' : Nat) => qmay_nobody W a (h.below hW) va na n c n' c')
  clear h
  go_enter Try.func19, Try.ntmps19
  go_wp2_with fail
  refine (HM.out _ (by repeat (first | exact Below.refl _ _ | (refine Below.alloc ?_ (by simp <;> omega) _))) _ _ _ _ _ _).mono ?_
  rintro e w1 ⟨rfl, hw1⟩
  have HB1 : Hid (Below w.heap.size w w1) := Lib.hid (by rw [← hw1]; repeat (first | exact Below.refl _ _ | (refine Below.alloc ?_ (by simp <;> omega) _)))
  clear hw1
  go_wp2_with fail
  go_ret2
  exact ⟨rfl, HB1.out⟩
set_option maxRecDepth 100000 in
set_option maxHeartbeats 1600000 in
theorem qrn_nobody (w : World) (a : Option Addr) (h : NoQu w a) (k : Int) (va : Option Addr) (vs : List Int) (c : Nat) (hl : vs.length ≤ 300) (hv : Cells w va (vs.map fun k => .int .i64 k)) (hwf : ∀ z ∈ vs, (Lit.int .i64 z).wf = true) :
    Calls Try.prog 14 #[.pointer a, .int .i64 k, .slice va vs.length c, .slice va vs.length c] w (RetE 1 w) := by
  have HM := Lib.hid (fun (W : World) (hW : Below w.heap.size w W) (va na : Option Addr) (n c n' c' : Nat) => qmay_nobody W a (h.below hW) va na n c n' c')
  have HSET := Lib.hid (fun (W : World) (hW : Below w.heap.size w W) => set_ok W va vs c hl (hv.below hW) hwf)
  obtain ⟨D, hD⟩ : ∃ D, dcnt vs.reverse = D := ⟨_, rfl⟩
  obtain ⟨N, hN⟩ : ∃ N, vs.length = N := ⟨_, rfl⟩
  rw [hD, hN] at HSET
  rw [hN]
  obtain ⟨wq, hwq⟩ : ∃ wq, wq = w.alloc (.cells #[.pointer a] 23) := ⟨_, rfl⟩
  have HWQ := Lib.hid hwq
  have hbq : Below w.heap.size w wq := by rw [hwq]; exact (Below.refl _ _).alloc (Nat.le_refl _) _
  have hqx : Blk wq w.heap.size 23 #[.pointer a] := by rw [hwq]; exact Blk.new_ w _ _
  have HBQ := Lib.hid hbq; have HQX := Lib.hid hqx
  clear h hv hwf hl hD hN hwq hbq hqx
  by_cases hd : D = N
  · subst hd
    go_enter Try.func14, Try.ntmps14
    go_wp2_with fail
    rw [← HWQ.out]
    refine (HSET.out wq HBQ.out).mono ?_
    rintro e w1 ⟨b1, rfl, hb1, hz, hb2⟩
    have HB1 := Lib.hid (HBQ.out.trans (hb2.mono HBQ.out.size)); have HX1 := Lib.hid (HQX.out.below hb2 HQX.out.lt)
    have x1 : w1.cell? ⟨w.heap.size, 0, none⟩ = some (.pointer a) := HX1.out.cell 0
    have xl := HX1.out.lt
    have hlen := hz.len
    clear hz hb1 hb2
    go_wp2_with fail
    refine (HM.out w1 HB1.out _ _ _ _ _ _).mono ?_
    rintro e w2 ⟨rfl, rfl⟩
    go_wp2_with fail
    go_ret2
    exact ⟨rfl, HB1.out⟩
  · have hne : ((D : Int) != (N : Int)) = true := by rw [bne_iff_ne]; omega
    have hne2 : ((D : Int) == (N : Int)) = false := by rw [beq_eq_false_iff_ne]; omega
    go_enter Try.func14, Try.ntmps14
    go_wp2_with fail
    rw [← HWQ.out]
    refine (HSET.out wq HBQ.out).mono ?_
    rintro e w1 ⟨b1, rfl, hb1, hz, hb2⟩
    have HB1 := Lib.hid (HBQ.out.trans (hb2.mono HBQ.out.size))
    have hlen := hz.len
    clear hz hb1 hb2 hd
    go_wp2_with fail
    go_ret2
    exact ⟨rfl, HB1.out⟩
theorem isK_nw (n : Nat) (k : Int) : isK (newS 4 n).l k = (decide (0 ≤ k) && decide (k ≤ 1)) := by
  by_cases h : 0 ≤ k
  · obtain ⟨m, rfl⟩ : ∃ m : Nat, k = (m : Int) := ⟨k.toNat, by omega⟩
    rw [isK_nat, decide_eq_true h, Bool.true_and]
    rcases Nat.lt_or_ge m 2 with hm | hm
    · rcases (by omega : m = 0 ∨ m = 1) with rfl | rfl <;> rfl
    · rw [decide_eq_false (by omega)]
      unfold isB
      rw [nd_ge (by show 2 ≤ m; exact hm)]
      rfl
  · rw [isK_neg (by omega), decide_eq_false h]; rfl
def leafZ (k : Int) : Bool := decide (0 ≤ k) && decide (k ≤ 1)
def varZ (v : Int) : Bool := decide (0 ≤ v) && decide (v ≤ 3)
theorem isK_leaf {S : NS} (hW : Wf S) {k : Int} (h : leafZ k = true) : ∃ m : Nat, k = (m : Int) ∧ isB S.l m = true := by
  unfold leafZ at h
  simp at h
  obtain ⟨m, rfl⟩ : ∃ m : Nat, k = (m : Int) := ⟨k.toNat, by omega⟩
  rcases (by omega : m = 0 ∨ m = 1) with rfl | rfl
  · exact ⟨0, rfl, (Den.zero hW).is⟩
  · exact ⟨1, rfl, (Den.one hW).is⟩
theorem vOk_four {S : NS} (h : S.vars = 4) (v : Int) : vOk S v = varZ v := by
  unfold vOk varZ
  rw [h]
  congr 1
  rw [decide_eq_decide]
  constructor <;> intro h <;> omega
def nobE (v k : Int) : Int := if varZ v then (if leafZ k then 0 else 3) else 1
def RstPost (w0 : World) (p q qn : Nat) (k : Int) (E : Int) (e : Ending) (w' : World) : Prop :=
  ∃ nn : Int, (E ≠ 0 → nn = 0) ∧ e = .returned (.tuple #[.int .i64 nn, .int .i64 E]) ∧ ∃ S, QSt w0 w' w0.heap.size p q qn S 83 ∧ isK S.l k = leafZ k
theorem rst_any {w0 w : World} {p q qn : Nat} (h : QSt w0 w w0.heap.size p q qn (newS 4 100) 98) (k v : Int) :
    Calls Try.prog 16 #[.pointer (some ⟨qn, 0, none⟩), .int .i64 k, .int .i64 v, .bool true] w (RstPost w0 p q qn k (nobE v k)) := by
  have hm : mayE (newS 4 100) [v] [k] = nobE v k := by
    unfold mayE nobE
    simp [vOk_four (S := newS 4 100) rfl, isK_nw, leafZ]
  have hless : QSt w0 w w0.heap.size p q qn (newS 4 100) 83 := { h with room := by have := h.toOSt.room; omega }
  by_cases h0 : nobE v k = 0
  · have hv : varZ v = true := by
      cases e : varZ v with
      | true => rfl
      | false => unfold nobE at h0; rw [e] at h0; simp at h0
    have hk : leafZ k = true := by
      cases e : leafZ k with
      | true => rfl
      | false => unfold nobE at h0; rw [hv, e] at h0; simp at h0
    obtain ⟨m, rfl, hmk⟩ := isK_leaf h.wf hk
    obtain ⟨u, rfl, hu⟩ : ∃ u : Nat, v = (u : Int) ∧ u < 4 := ⟨v.toNat, by unfold varZ at hv; simp at hv; omega, by unfold varZ at hv; simp at hv; omega⟩
    refine (qrs_ok w _ p q qn (newS 4 100) h.sto h.ops h.qu h.hB m u true hmk hu 15 (by decide)).mono fun e w' hr => ?_
    obtain ⟨S2, n, rfl, ho, hg⟩ := h.got hr (by decide)
    refine ⟨n, fun hh => absurd h0 hh, by rw [h0], S2, ho, ?_⟩
    obtain ⟨m2, h1, h2⟩ := isK_leaf ho.wf hk
    obtain rfl : m = m2 := by omega
    rw [isK_nat, h2, hk]
  · refine (qrs_no w _ p q qn (newS 4 100) h.sto h.qu k v true _ hm h0).mono fun e w' hr => ?_
    obtain ⟨rfl, hb⟩ := hr
    exact ⟨0, fun _ => rfl, rfl, _, hless.below hb, isK_nw _ _⟩
def RetN (E : Int) (B : Nat) (w : World) (e : Ending) (w' : World) : Prop := ∃ nn : Int, (E ≠ 0 → nn = 0) ∧ e = .returned (.tuple #[.int .i64 nn, .int .i64 E]) ∧ Below B w w'
def oddZ (l : List Int) : Bool := decide (256 < l.length) || l.any fun v => !varZ v
def nobX (l : List Int) (k : Int) : Int := if oddZ l then 1 else (if leafZ k then 0 else 3)
theorem ex_any {w0 w : World} {p q qn : Nat} {S : NS} (h : QSt w0 w w0.heap.size p q qn S 83) (k : Int) (hk : isK S.l k = leafZ k) (va : Option Addr) (l : List Int) (c : Nat) (hl : l.length ≤ 300) (hc : Cells w va (l.map fun k => .int .i64 k)) :
    Calls Try.prog 17 #[.pointer (some ⟨qn, 0, none⟩), .int .i64 k, .slice va l.length c] w (RetN (nobX l k) w0.heap.size w) := by
  have hm : mayE S l [k] = nobX l k := by
    unfold mayE nobX oddZ
    have e : l.all (vOk S) = !(l.any fun v => !varZ v) := by
      rw [List.not_any_eq_all_not]
      congr 1
      funext v
      rw [vOk_four h.v4, Bool.not_not]
    have e2 : decide (l.length ≤ 256) = !decide (256 < l.length) := by
      by_cases h : 256 < l.length <;> simp [h] <;> omega
    rw [e, e2]
    simp only [List.all_cons, List.all_nil, Bool.and_true, hk]
    cases decide (256 < l.length) <;> cases (l.any fun v => !varZ v) <;> rfl
  by_cases h0 : nobX l k = 0
  · have ho : oddZ l = false := by
      cases e : oddZ l with
      | false => rfl
      | true => unfold nobX at h0; rw [e] at h0; simp at h0
    have hk2 : leafZ k = true := by
      cases e : leafZ k with
      | true => rfl
      | false => unfold nobX at h0; rw [ho, e] at h0; simp at h0
    obtain ⟨m, rfl, hmk⟩ := isK_leaf h.wf hk2
    unfold oddZ at ho
    rw [Bool.or_eq_false_iff] at ho
    refine (qex_ok w _ p q qn S h.sto h.ops h.qu h.hB m hmk va l c (by have := of_decide_eq_false ho.1; omega) hc (by
      rw [List.all_eq_true]
      intro v hv
      have := List.any_eq_false.1 ho.2 v hv
      rw [vOk_four h.v4]
      simpa using this) 32 (by rw [h.v4]; decide)).mono fun e w' hr => ?_
    have hkp : Kp TO w0.heap.size w w' := by obtain ⟨_, _, _, h3, _⟩ := hr; exact h3
    obtain ⟨S2, n, rfl, ho, hg⟩ := h.got hr (by decide)
    exact ⟨n, fun hh => absurd h0 hh, by rw [h0], hkp.low h.hB⟩
  · refine (qex_no w _ p q qn S h.sto h.qu k va l c hl hc _ hm h0).mono fun e w' hr => ?_
    obtain ⟨rfl, hb⟩ := hr
    exact ⟨0, fun _ => rfl, rfl, hb.mono h.hB⟩
end Go.Proofs.Ytoegenacjhmicaa

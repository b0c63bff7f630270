/- Layer 7: the contracts of Check, Bits, and of finding a domain by its name. -/
import Derived.Test.YtedfakpmdncnmaaDoorLayA
import Derived.Conc.MuLone
namespace Go.Proofs.YtedfakpmdncnmaaDoor
open Go.RowKit LY
set_option maxHeartbeats 1600000 in
theorem check_ok (w : World) (a : Option Addr) (doms : List Dm) (c : Nat) (hl : doms.length ≤ 40) (hc : Cells w a (doms.flatMap domCells)) (hnm : ∀ d ∈ doms, d.name.size ≤ maxLen) :
    Calls Tryd.prog 10 #[.slice a doms.length c] w fun e w' => e = .returned (.int .i64 (if mayB doms then 0 else 1)) ∧ Below w.heap.size w w' := by
  have HW := Lib.hid (widths_ok w a doms c hl hc hnm)
  obtain ⟨r, hr⟩ : ∃ r : Int, (if mayB doms then 0 else 1) = r := ⟨_, rfl⟩
  have HR := Lib.hid hr
  rw [hr]
  clear hr
  go_enter Tryd.func10, Tryd.ntmps10
  go_wp2_with fail
  refine HW.out.mono ?_
  rintro e w1 ⟨hb1, ⟨hm, y, A, rfl⟩ | ⟨hm, y, rfl, _⟩⟩
  · have HB1 := Lib.hid hb1
    have hr2 := HR.out
    rw [hm] at hr2
    subst hr2
    clear hb1 hm
    go_wp2_with fail
    go_ret
    exact ⟨rfl, HB1.out⟩
  · have HB1 := Lib.hid hb1
    have hr2 := HR.out
    rw [hm] at hr2
    subst hr2
    clear hb1 hm
    go_wp2_with fail
    go_ret
    exact ⟨rfl, HB1.out⟩
set_option maxHeartbeats 1600000 in
theorem bitsD_ok (w : World) (a : Option Addr) (doms : List Dm) (c : Nat) (hl : doms.length ≤ 40) (hc : Cells w a (doms.flatMap domCells)) (hnm : ∀ d ∈ doms, d.name.size ≤ maxLen) :
    Calls Tryd.prog 11 #[.slice a doms.length c] w fun e w' => e = .returned (.int .i64 (if mayB doms then (allW doms : Int) else 0)) ∧ Below w.heap.size w w' := by
  have HW := Lib.hid (widths_ok w a doms c hl hc hnm)
  obtain ⟨r, hr⟩ : ∃ r : Int, (if mayB doms then (allW doms : Int) else 0) = r := ⟨_, rfl⟩
  have HR := Lib.hid hr
  rw [hr]
  clear hr
  go_enter Tryd.func11, Tryd.ntmps11
  go_wp2_with fail
  refine HW.out.mono ?_
  rintro e w1 ⟨hb1, ⟨hm, y, A, rfl⟩ | ⟨hm, y, rfl, _⟩⟩
  · have HB1 := Lib.hid hb1
    have hr2 := HR.out
    rw [hm] at hr2
    subst hr2
    clear hb1 hm
    go_wp2_with fail
    go_ret
    exact ⟨rfl, HB1.out⟩
  · have HB1 := Lib.hid hb1
    have hr2 := HR.out
    rw [hm] at hr2
    subst hr2
    clear hb1 hm
    go_wp2_with fail
    go_ret
    exact ⟨rfl, HB1.out⟩
theorem call_place1 (args : Array Value) (w : World) : (callFunc 19 args).run Tryd.prog w = .ok (.enter 19 args) w := MuLone.run_callFunc_enter Tryd.func19 (by kernel_rfl) rfl args w
theorem beq_bytes (a b : ByteArray) : (a.toList == b.toList) = decide (a = b) := by
  rw [Lib.toList_data, Lib.toList_data]
  by_cases h : a = b
  · subst h; simp
  · rw [decide_eq_false h, beq_eq_false_iff_ne]
    intro e
    exact h (ByteArray.ext (Array.toList_inj.1 e))
set_option maxHeartbeats 1600000 in
theorem place1_ok (w : World) (n s : ByteArray) (z : Int) (sb : Nat) (hs : w.cell? ⟨sb, 0, none⟩ = some (.string s)) (hlt : sb < w.heap.size) :
    Calls Tryd.prog 19 #[.agg #[.string n, .int .i64 z], .pointer (some ⟨sb, 0, none⟩)] w fun e w' => e = .returned (.bool (decide (n = s))) ∧ Below w.heap.size w w' := by
  obtain ⟨b, hb⟩ : ∃ b, decide (n = s) = b := ⟨_, rfl⟩
  have hbe : (n.toList == s.toList) = b := by rw [beq_bytes, hb]
  obtain ⟨w1, hw1⟩ : ∃ w1, w1 = w.alloc (.cells #[.string n, .int .i64 z] 26) := ⟨_, rfl⟩
  have hb1 : Below w.heap.size w w1 := by rw [hw1]; exact (Below.refl _ _).alloc (Nat.le_refl _) _
  have HB1 := Lib.hid hb1; have HW1 := Lib.hid hw1; have HBV := Lib.hid hb
  clear hb hb1 hw1
  go_enter Tryd.func19, Tryd.ntmps19
  go_wp2
  go_ret
  refine ⟨?_, by rw [← HW1.out]; exact HB1.out⟩
  rw [HBV.out]; rfl
/-- where a domain with a name stands -/
def IdxPost (doms : List Dm) (s : ByteArray) (w : World) (e : Ending) (w' : World) : Prop :=
  Below w.heap.size w w' ∧ ((∃ k : Nat, k < doms.length ∧ (at_ doms k).name = s ∧ e = .returned (.int .i64 (k : Int))) ∨ ((∀ k, k < doms.length → (at_ doms k).name ≠ s) ∧ e = .returned (.int .i64 (-1))))
set_option maxHeartbeats 1600000 in
theorem index_ok (w : World) (a : Option Addr) (doms : List Dm) (c : Nat) (hl : doms.length ≤ 40) (hc : Cells w a (doms.flatMap domCells)) (s : ByteArray) (sb : Nat) (hs : w.cell? ⟨sb, 0, none⟩ = some (.string s)) (hlt : sb < w.heap.size) :
    Calls Tryd.prog 18 #[.slice a doms.length c, .func (.func 19) #[] #[.pointer (some ⟨sb, 0, none⟩)]] w (IdxPost doms s w) := by
  obtain ⟨N, hN⟩ : ∃ N, doms.length = N := ⟨_, rfl⟩
  have HC := Lib.hid hc; have HN := Lib.hid hN; have HS := Lib.hid hs
  have hcall := call_place1
  rw [hN] at hl ⊢
  clear hc hN hs
  go_enter Tryd.func18, Tryd.ntmps18
  go_wp2_with fail
  go_loopg [8] N (fun mm x wr => ∃ i : Nat, mm + i = N ∧ x = .int .i64 (i : Int) ∧ Below w.heap.size w wr ∧ ∀ k, k < i → (at_ doms k).name ≠ s)
  case atStart => exact ⟨0, by omega, rfl, Below.refl _ _, fun k hk => absurd hk (Nat.not_lt_zero _)⟩
  case round =>
    obtain ⟨i, hm, rfl, hb, hno⟩ := hrel
    have HM := Lib.hid hm; have HB := Lib.hid hb; have HNO := Lib.hid hno
    clear hm hb hno
    by_cases hi : i < N
    · have hd := at_get (doms := doms) (i := i) (by rw [HN.out]; exact hi)
      obtain ⟨d, hde⟩ : ∃ d, at_ doms i = d := ⟨_, rfl⟩
      rw [hde] at hd
      obtain ⟨n, z⟩ := d
      obtain ⟨b0, o0, rfl, hb0, k0, k1⟩ := (HC.out.below HB.out).dom hd
      have hcell : wr.cell? ⟨sb, 0, none⟩ = some (.string s) := (HB.out.cell (p := ⟨sb, 0, none⟩) hlt).trans HS.out
      have HP1 := Lib.hid (place1_ok wr n s z sb hcell (Nat.lt_of_lt_of_le hlt HB.out.size))
      have HDE := Lib.hid hde
      obtain ⟨b, hbv⟩ : ∃ b, decide (n = s) = b := ⟨_, rfl⟩
      rw [hbv] at HP1
      clear hd hde hcell
      go_wp2_with fail
      refine HP1.out.mono ?_
      rintro e w1 ⟨rfl, hb1⟩
      have HB1 := Lib.hid (HB.out.trans (hb1.mono HB.out.size))
      clear hb1 HP1
      cases b with
      | true =>
        have hns := of_decide_eq_true hbv
        have HNS : Hid ((at_ doms i).name = s) := Lib.hid (by rw [HDE.out]; exact hns)
        clear hbv hns
        go_wp2_with fail
        go_ret
        exact ⟨HB1.out, .inl ⟨i, by rw [HN.out]; exact hi, HNS.out, rfl⟩⟩
      | false =>
        have hns := of_decide_eq_false hbv
        have HNS : Hid ((at_ doms i).name ≠ s) := Lib.hid (by rw [HDE.out]; exact hns)
        clear hbv hns
        go_wp2_with fail
        go_roundg (N - (i + 1))
        case measure => have := HM.out; omega
        case rel => exact ⟨i + 1, by have := HM.out; omega, by go_num, HB1.out, fun k hk => by
          by_cases e : k = i
          · subst e; exact HNS.out
          · exact HNO.out k (by omega)⟩
    · have hiN : i = N := by have := HM.out; omega
      subst hiN
      go_wp2_with fail
      go_ret
      exact ⟨HB.out, .inr ⟨fun k hk => HNO.out k (by rw [HN.out] at hk; exact hk), rfl⟩⟩
end Go.Proofs.YtedfakpmdncnmaaDoor

/- Layer 7: the contracts of join, Stacked, Woven. -/
import Derived.Test.YtedfakpmdncnmaaDoorLayL1
import Derived.Test.YtedfakpmdncnmaaDoorLayE
namespace Go.Proofs.YtedfakpmdncnmaaDoor
open Go.RowKit LY
theorem str_info7 : (Tryd.prog.info? 9).map (fun i => (i.zero, i.size, i.bytes)) = some (some (.string ByteArray.empty), 1, 16) := by kernel_rfl
theorem lit_strL (w : World) (v : Value) (t : TypeId) : ∀ j u, [v][j]? = some u → (w.alloc (.cells #[v] t)).cell? ((⟨w.heap.size, 0, none⟩ : Addr).add j) = some u := fun j u hj => by
  match j, hj with
  | 0, hj => simp at hj; subst hj; exact World.cell?_alloc_new ..
theorem ones_strL (s : ByteArray) : ∀ u ∈ [Value.string s], u.oneCell' = true := by intro u hu; simp at hu; subst hu; rfl
def namesB (doms : List Dm) : List ByteArray := doms.map (·.name)
theorem namesB_len (doms : List Dm) : (namesB doms).length = doms.length := List.length_map ..
theorem lens_le : ∀ (l : List (List UInt8)), (∀ x ∈ l, x.length ≤ 16) → Lib.lens l ≤ 16 * l.length
  | [], _ => Nat.zero_le _
  | x :: l, h => by
    have h1 := h x (by simp)
    have h2 := lens_le l fun y hy => h y (List.mem_cons_of_mem _ hy)
    unfold Lib.lens at h2 ⊢
    rw [List.map_cons, List.sum_cons, List.length_cons]
    omega
theorem join_le (l : List (List UInt8)) (c : UInt8) (h : ∀ x ∈ l, x.length ≤ 16) (hl : l.length ≤ 40) : (Lib.join l [c]).length ≤ 1000 := by
  cases l with
  | nil => exact Nat.zero_le _
  | cons x r =>
    rw [Lib.join_length]
    have := lens_le (x :: r) h
    rw [List.length_cons] at this hl
    show 1 * r.length + _ ≤ _
    omega
/-- what join gives of domains that may be -/
def JoinPost (doms : List Dm) (c : UInt8) (w : World) (e : Ending) (w' : World) : Prop := Below w.heap.size w w' ∧ ∃ o : ByteArray, e = .returned (.string o) ∧ o.data.toList = joinC c ((List.range doms.length).map (nm doms)) ∧ o.size ≤ 1000
theorem names_range (doms : List Dm) : (namesB doms).map (fun x => x.data.toList) = (List.range doms.length).map (nm doms) := by
  unfold namesB
  rw [List.map_map]
  refine List.ext_getElem? fun i => ?_
  rw [List.getElem?_map, List.getElem?_map]
  by_cases h : i < doms.length
  · rw [List.getElem?_range h, at_get h]; rfl
  · rw [List.getElem?_eq_none (by omega), List.getElem?_eq_none (by simpa using h)]; rfl
set_option maxHeartbeats 3200000 in
theorem join_ok (w : World) (a : Option Addr) (doms : List Dm) (c : Nat) (sep : UInt8) (hm : mayB doms = true) (h0 : 0 < doms.length) (hc : Cells w a (doms.flatMap domCells)) :
    Calls Tryd.prog 21 #[.slice a doms.length c, .string ⟨#[sep]⟩] w (JoinPost doms sep w) := by
  have hl32 := (may_iff.1 hm).2.2.2
  have h16 : ∀ d ∈ doms, d.name.size ≤ 16 := fun d hd => by
    have hok := (may_iff.1 hm).1 d hd
    unfold okD at hok
    rw [Bool.and_eq_true, Bool.and_eq_true] at hok
    have h2 := hok.2.2
    unfold nameB at h2
    rw [Bool.and_eq_true, Bool.and_eq_true, decide_eq_true_eq, decide_eq_true_eq] at h2
    exact h2.2.1
  have HCK := Lib.hid (check_ok w a doms c (by omega) hc (fun d hd => by have := h16 d hd; unfold maxLen; omega))
  rw [if_pos hm] at HCK
  obtain ⟨N, hN⟩ : ∃ N, doms.length = N := ⟨_, rfl⟩
  have HC := Lib.hid hc; have HN := Lib.hid hN; have H16 := Lib.hid h16
  rw [hN] at hl32 HCK h0 ⊢
  obtain ⟨j0, hj0, yz0, yz1, yz2⟩ := info_parts str_info7
  clear hc hN h16 hm
  go_enter Tryd.func21, Tryd.ntmps21
  go_wp2_with fail
  refine HCK.out.mono ?_
  rintro e w1 ⟨rfl, hb1⟩
  have HB1 := Lib.hid hb1
  clear hb1 HCK
  go_wp2_with fail
  go_loopg [5, 13] N (fun mm u x wr => ∃ i : Nat, mm + i = N ∧ x = .int .i64 (i : Int) ∧ Below w.heap.size w wr ∧ wr.ownsRow w.heap.size 9 1 u i ((namesB (doms.take i)).map Value.string))
  case atStart => exact ⟨0, by omega, rfl, HB1.out, World.ownsRow_nil _ _ _ _⟩
  case round =>
    obtain ⟨i, hm, rfl, hb, hr⟩ := hrel
    have HM := Lib.hid hm; have HB := Lib.hid hb; have HR := Lib.hid hr
    clear hm hb hr
    by_cases hi : i < N
    · have hd := at_get (doms := doms) (i := i) (by rw [HN.out]; exact hi)
      obtain ⟨d, hde⟩ : ∃ d, at_ doms i = d := ⟨_, rfl⟩
      rw [hde] at hd
      have hnx : (namesB (doms.take (i + 1))).map Value.string = (namesB (doms.take i)).map Value.string ++ [.string d.name] := by
        rw [List.take_add_one, hd]
        unfold namesB
        rw [List.map_append, List.map_append]; rfl
      obtain ⟨s, z⟩ := d
      obtain ⟨b0, o0, rfl, hb0, k0, k1⟩ := (HC.out.below HB.out).dom hd
      obtain ⟨bd, hbd⟩ : ∃ bd, wr.heap.size = bd := ⟨_, rfl⟩
      obtain ⟨W1, hW1⟩ : ∃ W1, W1 = wr.alloc (.cells #[.string s, .int .i64 z] 26) := ⟨_, rfl⟩
      have hbb1 : Below wr.heap.size wr W1 := by rw [hW1]; exact (Below.refl _ _).alloc (Nat.le_refl _) _
      have hk1 : Blk W1 bd 26 #[.string s, .int .i64 z] := by rw [hW1, ← hbd]; exact Blk.new_ _ _ _
      have c0 : W1.cell? ⟨bd, 0, none⟩ = some (.string s) := hk1.cell 0
      have HBB1 := Lib.hid (HB.out.trans (hbb1.mono HB.out.size)); have HR1 := Lib.hid (own_below HR.out hbb1); have HNX := Lib.hid hnx; have HW1 := Lib.hid hW1; have HBD := Lib.hid hbd
      have hs1 := HBB1.out.size
      clear hd hde hnx hW1 hbb1 hk1 hbd
      go_upto_region 7 with (fail)
      rw [← HW1.out]
      rw [HBD.out]
      go_wp2_with (at_builtin; refine wpList_append_sep rfl (.tmp 17) (.tmp 20) 47 rfl w.heap.size 9 j0 (.string ByteArray.empty) 1 16 Tryd.underlying47 hj0 yz0 yz1 yz2 rfl (by decide) u5 i _ rfl (HR1.out.alloc _) W1.heap.size 0 1 1 [.string s] rfl rfl (lit_strL _ _ _) (ones_strL _) (by unfold maxLen; omega) (by omega) (by simp; omega) ?_)
      intro y4 w4 hown4 hg4 hsep4
      have HR4 : Hid (w4.ownsRow w.heap.size 9 1 y4 (i + 1) ((namesB (doms.take (i + 1))).map Value.string)) := Lib.hid (by rw [HNX.out]; exact hown4)
      have HB4 : Hid (Below w.heap.size w w4) := Lib.hid ((HBB1.out.alloc hs1 (.cells #[.string s] 9)).grown hg4 (Nat.le_trans hs1 (Nat.le_of_lt (by simp))) (fun j hj => (HR1.out.lt j hj).1))
      clear hown4 hg4 hsep4
      go_wp2_with fail
      go_roundg (N - (i + 1))
      case measure => have := HM.out; omega
      case rel => exact ⟨i + 1, by have := HM.out; omega, by go_num, HB4.out, HR4.out⟩
    · have hiN : i = N := by have := HM.out; omega
      subst hiN
      have hr := HR.out
      rw [List.take_of_length_le (by rw [HN.out]; exact Nat.le_refl _)] at hr
      obtain ⟨g, cap, rfl, _⟩ := own_cellsL hr h0
      obtain ⟨oa, oc, e, hc1, hc2, hcc⟩ := Cells.of_own hr
      injection e with e1 _ e3
      subst e1 e3
      obtain ⟨b2, o2, e, hb2, hcell⟩ := hcc (by
        intro e
        have : ((namesB doms).map Value.string).length = 0 := by rw [e]; rfl
        rw [List.length_map, namesB_len, HN.out] at this
        omega)
      injection e with e
      injection e with e1 e2 _
      subst e1 e2
      have hjl := join_le ((namesB doms).map fun x => x.data.toList) sep (fun x hx => by
        obtain ⟨y, hy, rfl⟩ := List.mem_map.1 hx
        obtain ⟨d, hd, rfl⟩ := List.mem_map.1 hy
        have := H16.out d hd
        rw [Lib.size_eq] at this; exact this) (by rw [List.length_map, namesB_len, HN.out]; omega)
      have HJ := Lib.hid (Tryd.strings_Join g 0 cap (namesB doms) ⟨#[sep]⟩ wr (fun j x hx => hcell j _ (by rw [List.getElem?_map, hx]; rfl)) hb2 (by rw [namesB_len, HN.out]; omega) (by rw [namesB_len, HN.out]; exact hc1) (Nat.le_trans hjl (by decide)))
      rw [namesB_len, HN.out] at HJ
      have HJL := Lib.hid hjl
      clear hr hcc hcell hjl
      go_wp2_with fail
      refine HJ.out.mono ?_
      rintro e w5 ⟨rfl, hb5⟩
      have HB5 := Lib.hid (HB.out.trans (hb5.mono HB.out.size))
      clear hb5
      go_wp2_with fail
      go_ret
      refine ⟨HB5.out, _, rfl, ?_, ?_⟩
      · show (Lib.join ((namesB doms).map fun x => x.data.toList) [sep]) = _
        rw [← joinC_join, names_range]
      · show (Lib.join ((namesB doms).map fun x => x.data.toList) [sep]).toArray.size ≤ 1000
        exact HJL.out
set_option maxHeartbeats 1600000 in
theorem stacked_ok (w : World) (a : Option Addr) (doms : List Dm) (c : Nat) (hm : mayB doms = true) (h0 : 0 < doms.length) (hc : Cells w a (doms.flatMap domCells)) :
    Calls Tryd.prog 13 #[.slice a doms.length c] w (JoinPost doms 95 w) := by
  have HJ := Lib.hid (join_ok w a doms c 95 hm h0 hc)
  clear hc hm h0
  go_enter Tryd.func13, Tryd.ntmps13
  go_wp2_with fail
  refine HJ.out.mono ?_
  rintro e w1 ⟨hb1, o, rfl, ho, hs⟩
  have HO := Lib.hid ho; have HB1 := Lib.hid hb1; have HS := Lib.hid hs
  clear ho hb1 hs
  go_wp2_with fail
  go_ret
  exact ⟨HB1.out, o, rfl, HO.out, HS.out⟩
set_option maxHeartbeats 1600000 in
theorem woven_ok (w : World) (a : Option Addr) (doms : List Dm) (c : Nat) (hm : mayB doms = true) (h0 : 0 < doms.length) (hc : Cells w a (doms.flatMap domCells)) :
    Calls Tryd.prog 14 #[.slice a doms.length c] w (JoinPost doms 42 w) := by
  have HJ := Lib.hid (join_ok w a doms c 42 hm h0 hc)
  clear hc hm h0
  go_enter Tryd.func14, Tryd.ntmps14
  go_wp2_with fail
  refine HJ.out.mono ?_
  rintro e w1 ⟨hb1, o, rfl, ho, hs⟩
  have HO := Lib.hid ho; have HB1 := Lib.hid hb1; have HS := Lib.hid hs
  clear ho hb1 hs
  go_wp2_with fail
  go_ret
  exact ⟨HB1.out, o, rfl, HO.out, HS.out⟩
end Go.Proofs.YtedfakpmdncnmaaDoor

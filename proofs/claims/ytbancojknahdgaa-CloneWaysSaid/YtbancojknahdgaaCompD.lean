/- The contract of walker.leave. -/
import Derived.Test.YtbancojknahdgaaCompC
namespace Go.Proofs.Ytbancojknahdgaa
open Go.RowKit CP
def LeavePost (w : World) (G B : Nat) (A : WA) (n : Nat) (g : Nat → List Nat) (sl : Nat → Value) (stk : Value) (s' : TS) (e : Ending) (w' : World) : Prop :=
  e = .returned (.tuple #[]) ∧ Only (WF A stk) w w' ∧ ∃ stk', WM w' G B A n g sl stk' s' ∧ stk'.ownBlock = stk.ownBlock
def popS (s : TS) (pre L : List Nat) (m : Nat) : TS := { s with stack := pre ++ L.take m, on := fun v => if v ∈ L.drop m then false else s.on v, comp := fun v => if v ∈ L.drop m then s.comps else s.comp v }
theorem popS_all (s : TS) (pre L : List Nat) (h : s.stack = pre ++ L) : popS s pre L L.length = s := by
  unfold popS
  rw [List.take_length, List.drop_length, ← h]
  simp
theorem popS_step (s : TS) (pre L : List Nat) {m t : Nat} (ht : L[m]? = some t) : ({ ({ ({ popS s pre L (m + 1) with stack := pre ++ L.take m } : TS) with on := fup (popS s pre L (m + 1)).on t false } : TS) with comp := fup (popS s pre L (m + 1)).comp t s.comps } : TS) = popS s pre L m := by
  have hd : ∀ v, v ∈ L.drop m ↔ v = t ∨ v ∈ L.drop (m + 1) := fun v => by
    have hm : m < L.length := by
      rcases Nat.lt_or_ge m L.length with h | h
      · exact h
      · rw [List.getElem?_eq_none h] at ht; cases ht
    have : L.drop m = t :: L.drop (m + 1) := by
      rw [List.drop_eq_getElem_cons hm]
      rw [List.getElem?_eq_getElem hm] at ht
      injection ht with ht
      rw [ht]
    rw [this, List.mem_cons]
  have e1 : (fup (popS s pre L (m + 1)).on t false) = fun v => if v ∈ L.drop m then false else s.on v := by
    funext v
    by_cases e : v = t
    · subst e; rw [fup_same, if_pos ((hd v).2 (.inl rfl))]
    · rw [fup_ne _ _ e]
      show (if v ∈ L.drop (m + 1) then false else s.on v) = _
      by_cases h : v ∈ L.drop (m + 1)
      · rw [if_pos h, if_pos ((hd v).2 (.inr h))]
      · rw [if_neg h, if_neg (fun hh => ((hd v).1 hh).elim e h)]
  have e2 : (fup (popS s pre L (m + 1)).comp t s.comps) = fun v => if v ∈ L.drop m then s.comps else s.comp v := by
    funext v
    by_cases e : v = t
    · subst e; rw [fup_same, if_pos ((hd v).2 (.inl rfl))]
    · rw [fup_ne _ _ e]
      show (if v ∈ L.drop (m + 1) then s.comps else s.comp v) = _
      by_cases h : v ∈ L.drop (m + 1)
      · rw [if_pos h, if_pos ((hd v).2 (.inr h))]
      · rw [if_neg h, if_neg (fun hh => ((hd v).1 hh).elim e h)]
  rw [e1, e2]
  rfl
theorem popS_end (s : TS) (pre L : List Nat) : ({ popS s pre L 0 with comps := s.comps + 1 } : TS) = s.pop pre L := by
  unfold popS TS.pop
  simp
set_option maxRecDepth 100000 in
set_option maxHeartbeats 6400000 in
theorem leave_ok (w : World) (G B : Nat) (A : WA) (n : Nat) (g : Nat → List Nat) (sl : Nat → Value) (stk : Value) (s : TS) (h : WM w G B A n g sl stk s) (k : Nat) (hk : k < n) (_hn : n ≤ 1024) (pre post : List Nat) (hst : s.stack = pre ++ k :: post) (hnd : (k :: post).Nodup) (hlt : ∀ v ∈ k :: post, v < n) (hlen : s.stack.length ≤ 1024) (hcm : s.comps ≤ 1024) :
    Calls Try.prog 66 #[.pointer (some ⟨A.p, 0, none⟩), .int .i64 (k : Int)] w (LeavePost w G B A n g sl stk (if s.low k < s.met k then s else s.pop pre (k :: post))) := by
  have H := Lib.hid h
  have p1 : w.cell? ⟨A.p, 1, none⟩ = some (.slice (some ⟨A.bm, 0, none⟩) n n) := h.blk.cell 1
  have p2 : w.cell? ⟨A.p, 2, none⟩ = some (.slice (some ⟨A.bl, 0, none⟩) n n) := h.blk.cell 2
  have pl := h.blk.lt
  have m1 := (h.met.cell k).trans (tabI_get _ hk)
  have l1 := (h.low.cell k).trans (tabI_get _ hk)
  have ml := h.met.lt
  have ll := h.low.lt
  by_cases hlow : s.low k < s.met k
  · have hq : ((s.low k : Int) < (s.met k : Int)) = True := by rw [eq_iff_iff]; simp; omega
    clear h
    rw [if_pos hlow]
    go_enter Try.func66, Try.ntmps66
    go_wp2_with fail
    go_quiet (fail)
    go_wp2_with fail
    refine bodyPost_ret (results_none rfl _ _ _) rfl ?_
    exact ⟨rfl, (Only.refl _ _).drewN _, stk, H.out.below ⟨rfl, rfl, rfl, Nat.le_refl _, fun _ _ => rfl⟩, rfl⟩
  · rw [if_neg hlow]
    obtain ⟨L, hL⟩ : ∃ L, L = k :: post := ⟨_, rfl⟩
    have hLn : 0 < L.length := by rw [hL]; simp
    have hL0 : L[0]? = some k := by rw [hL]; rfl
    rw [← hL] at hst hnd hlt ⊢
    have hsl : s.stack.length = pre.length + L.length := by rw [hst, List.length_append]
    have hown := h.own
    rw [hsl] at hown
    obtain ⟨b, cap, hstk⟩ : ∃ b cap, stk = .slice (some ⟨b, 0, none⟩) (pre.length + L.length) cap ∧ pre.length + L.length ≤ cap := by
      rcases hown.2 with ⟨_, h0⟩ | ⟨g', cap, cur, e, _, _, h1, _⟩
      · omega
      · exact ⟨g', cap, e, h1⟩
    obtain ⟨hstk, hcap⟩ := hstk
    subst hstk
    have HST := Lib.hid hst; have HND := Lib.hid hnd; have HLT := Lib.hid hlt; have HL0 := Lib.hid hL0
    have hpl : pre.length + L.length ≤ 1024 := by omega
    clear h hst hnd hlt hL hL0 hown hsl hlen
    go_enter Try.func66, Try.ntmps66
    go_wp2_with fail
    go_quiet (fail)
    go_wp2_with fail
    go_loopg [4] L.length (fun m x wr => ∃ j, m = j + 1 ∧ j < L.length ∧ WM wr G B A n g sl (.slice (some ⟨b, 0, none⟩) (pre.length + j + 1) cap) (popS s pre L (j + 1)) ∧ Only (WF A (.slice (some ⟨b, 0, none⟩) 0 0)) w wr)
    case atStart =>
      obtain ⟨j, hj⟩ : ∃ j, L.length = j + 1 := ⟨L.length - 1, by omega⟩
      refine ⟨j, hj, by omega, ?_, (Only.refl _ _).drewN _⟩
      rw [← hj, popS_all s pre L HST.out, show pre.length + j + 1 = pre.length + L.length from by omega]
      exact H.out.below ⟨rfl, rfl, rfl, Nat.le_refl _, fun _ _ => rfl⟩
    case round =>
      obtain ⟨j, hm, hj, hw, ho⟩ := hrel
      obtain ⟨t, ht⟩ : ∃ t, L[j]? = some t := ⟨_, List.getElem?_eq_getElem hj⟩
      have htn : t < n := HLT.out t (List.mem_of_getElem? ht)
      obtain ⟨q, hq⟩ : ∃ q, pre.length + j = q := ⟨_, rfl⟩
      have hqc : q + 1 ≤ cap := by omega
      have hq1 : q ≤ 1024 := by omega
      rw [hq] at hw
      have hsplit : (popS s pre L (j + 1)).stack = (pre ++ L.take j) ++ [t] := by
        show pre ++ L.take (j + 1) = _
        rw [List.take_add_one, ht, List.append_assoc]; rfl
      have hl1 : (pre ++ L.take j).length = q := by rw [List.length_append, List.length_take]; omega
      have hown := hw.own
      rw [hsplit, iV_app] at hown
      have hl2 : ((pre ++ L.take j) ++ [t]).length = q + 1 := by rw [List.length_append, hl1]; rfl
      rw [hl2] at hown
      have hpop := own_pop hown
      have htop : wr.cell? ⟨b, q, none⟩ = some (.int .i64 (t : Int)) := by
        have := hown.cells (g := b) rfl q (.int .i64 (t : Int)) (by rw [List.getElem?_append_right (by rw [iV_len, hl1]; exact Nat.le_refl _), iV_len, hl1, Nat.sub_self]; rfl)
        simp [Addr.add] at this
        split at this
        · rename_i h0; subst h0; exact this
        · exact this
      have hbl : b < wr.heap.size := (hown.lt b rfl).2
      have hsm := hw.sm; have hsw := hw.sw; have hsc := hw.sc
      have p3 : wr.cell? ⟨A.p, 3, none⟩ = some (.slice (some ⟨b, 0, none⟩) (q + 1) cap) := hw.blk.cell 3
      have fp3 := hw.blk.frozen 3
      have pl := hw.blk.lt
      have HT := Lib.hid ht; have HJ := Lib.hid hj; have HW := Lib.hid hw; have HO := Lib.hid ho; have HM := Lib.hid hm; have HL1 := Lib.hid hl1
      have HW2 := Lib.hid (hw.setStk (stk' := .slice (some ⟨b, 0, none⟩) q cap) (l := pre ++ L.take j) (by rw [hl1]; exact hpop) hsm hsw hsc)
      have HO2 := Lib.hid (ho.setCell (p := ⟨A.p, 3, none⟩) (fun _ => .inl rfl) (.slice (some ⟨b, 0, none⟩) q cap))
      clear ht hj hw ho hm hl1 hl2 hown hpop hsplit hsm hsw hsc hq
      go_wp2_with fail
      go_quiet (fail)
      go_wp2_with fail
      go_region
      obtain ⟨w2, hw2⟩ : ∃ w2, w2 = ((wr.drewN (nq + 1)).setCell ⟨A.p, 3, none⟩ (.slice (some ⟨b, 0, none⟩) q cap)) := ⟨_, rfl⟩
      have HX2 : Hid (WM w2 G B A n g sl (.slice (some ⟨b, 0, none⟩) q cap) { popS s pre L (j + 1) with stack := pre ++ L.take j }) := Lib.hid (by rw [hw2]; exact HW2.out.below ⟨rfl, rfl, rfl, Nat.le_refl _, fun _ _ => rfl⟩)
      have HO2' : Hid (Only (WF A (.slice (some ⟨b, 0, none⟩) 0 0)) w w2) := Lib.hid (by rw [hw2]; exact ⟨HO2.out.os, HO2.out.tape, HO2.out.output, HO2.out.size, HO2.out.block⟩)
      rw [← hw2]
      clear hw2 HW2 HO2 htop hbl p3 fp3 pl HW HO
      have p4 : w2.cell? ⟨A.p, 4, none⟩ = some (.slice (some ⟨A.bo, 0, none⟩) n n) := HX2.out.blk.cell 4
      have pl := HX2.out.blk.lt
      have o1 := (HX2.out.on.cell t).trans (tabB_get _ htn)
      have fo := HX2.out.on.frozen t
      have ol := HX2.out.on.lt
      have HX3 := Lib.hid (HX2.out.setOn htn false)
      have HO3 := Lib.hid (HO2'.out.setCell (p := ⟨A.bo, t, none⟩) (fun _ => .inr (.inr (.inr (.inl rfl)))) (.bool false))
      go_upto_region 4 with (fail)
      obtain ⟨w3, hw3⟩ : ∃ w3, w3 = w2.setCell ⟨A.bo, t, none⟩ (.bool false) := ⟨_, rfl⟩
      rw [← hw3] at HX3 HO3 ⊢
      clear hw3 p4 pl o1 fo ol HX2 HO2'
      have p6 : w3.cell? ⟨A.p, 6, none⟩ = some (.slice (some ⟨A.bc, 0, none⟩) n n) := HX3.out.blk.cell 6
      have p7 : w3.cell? ⟨A.p, 7, none⟩ = some (.int .i64 (s.comps : Int)) := HX3.out.blk.cell 7
      have pl := HX3.out.blk.lt
      have o1 := (HX3.out.comp.cell t).trans (tabI_get _ htn)
      have fo := HX3.out.comp.frozen t
      have ol := HX3.out.comp.lt
      have npc := HX3.out.pc
      have HX4 := Lib.hid ((HX3.out.setComp htn s.comps).below (Below.refl _ _).drew)
      have HO4 := Lib.hid ((HO3.out.setCell (p := ⟨A.bc, t, none⟩) (fun _ => .inr (.inr (.inr (.inr (.inl rfl))))) (.int .i64 (s.comps : Int))).drew)
      go_region
      obtain ⟨w4, hw4⟩ : ∃ w4, w4 = (w3.setCell ⟨A.bc, t, none⟩ (.int .i64 (s.comps : Int))).drew := ⟨_, rfl⟩
      rw [← hw4] at HX4 HO4 ⊢
      clear hw4 p6 p7 pl o1 fo ol npc HX3 HO3
      have HX5 : Hid (WM w4 G B A n g sl (.slice (some ⟨b, 0, none⟩) q cap) (popS s pre L j)) := Lib.hid (by rw [← popS_step s pre L HT.out]; exact HX4.out)
      have HO5 : Hid (Only (WF A (.slice (some ⟨b, 0, none⟩) 0 0)) w w4) := HO4
      clear HX4 HO4
      by_cases hj0 : j = 0
      · subst hj0
        obtain rfl : t = k := by have h1 := HT.out; rw [HL0.out] at h1; injection h1 with h1; exact h1.symm
        have p7 : w4.cell? ⟨A.p, 7, none⟩ = some (.int .i64 (s.comps : Int)) := HX5.out.blk.cell 7
        have f7 := HX5.out.blk.frozen 7
        have pl := HX5.out.blk.lt
        have HX6 := Lib.hid (HX5.out.setComps (s.comps + 1))
        have HO6 := Lib.hid (HO5.out.setCell (p := ⟨A.p, 7, none⟩) (fun _ => .inl rfl) (.int .i64 ((s.comps + 1 : Nat) : Int)))
        rw [show ((s.comps + 1 : Nat) : Int) = (s.comps : Int) + 1 from by omega] at HX6 HO6
        go_wp2_with fail
        go_end0
        refine ⟨rfl, HO6.out, .slice (some ⟨b, 0, none⟩) q cap, ?_, rfl⟩
        rw [← popS_end]; exact HX6.out
      · have hd : ((t : Int) == (k : Int)) = false := by
          rw [beq_eq_false_iff_ne]
          intro e
          have e : t = k := by omega
          subst e
          have h1 := HND.out
          have hj := HJ.out
          have a1 := HT.out; have a2 := HL0.out
          rw [List.getElem?_eq_getElem hj] at a1
          rw [List.getElem?_eq_getElem (by omega)] at a2
          injection a1 with a1; injection a2 with a2
          exact List.pairwise_iff_getElem.1 h1 0 j (by omega) hj (by omega) (by rw [a1, a2])
        obtain ⟨i, rfl⟩ : ∃ i, j = i + 1 := ⟨j - 1, by omega⟩
        have HQ : Hid (pre.length + i + 1 = q) := Lib.hid (by have h1 := HL1.out; have hj := HJ.out; rw [List.length_append, List.length_take] at h1; omega)
        go_wp2_with fail
        go_roundg (i + 1)
        case measure => have := HM.out; omega
        case rel => exact ⟨i, rfl, by have := HJ.out; omega, by rw [HQ.out]; exact HX5.out, HO5.out⟩
end Go.Proofs.Ytbancojknahdgaa

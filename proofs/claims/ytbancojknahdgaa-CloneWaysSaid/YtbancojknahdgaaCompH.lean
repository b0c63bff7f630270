/- The contracts of slices.Repeat at one element and of slices.IndexFunc. -/
import Derived.Test.YtbancojknahdgaaCompF
import Derived.Test.YtbancojknahdgaaShelfC
import Derived.Laws.CopyOwn
import Derived.Conc.MuLone
namespace Go.Proofs.Ytbancojknahdgaa
open Go.RowKit CP
theorem int_size1 : (Try.prog.info? 3).map (·.size) = some 1 := by kernel_rfl
theorem splice_rep (v z : Value) (q d r : Nat) : splice (List.replicate q v ++ List.replicate (d + r) z) q (List.replicate d v) = List.replicate (q + d) v ++ List.replicate r z := by
  unfold splice
  rw [List.take_append_of_le_length (by simp), List.take_of_length_le (by simp)]
  rw [List.length_replicate, List.drop_append]
  simp only [List.length_replicate, List.drop_replicate]
  rw [show q - (q + d) = 0 from by omega, show d + r - (q + d - q) = r from by omega, ← List.append_assoc]
  simp
theorem rep_pos {W : World} {g xb xo : Nat} {z : Int} (h : W.cell? ⟨xb, xo, none⟩ = some (.int .i64 z)) : 0 < [Value.int .i64 z].length → (some (⟨g, 0, none⟩ : Addr)) = some ⟨g, 0, none⟩ ∧ ∃ ad, (some (⟨xb, xo, none⟩ : Addr)) = some ad ∧ ∀ j v, [Value.int .i64 z][j]? = some v → W.cell? (ad.add j) = some v := fun _ => ⟨rfl, ⟨xb, xo, none⟩, rfl, fun j v hj => by
  match j, hj with
  | 0, hj => simp at hj; subst hj; exact h⟩
theorem hgr {w : World} {g : Nat} {o : Obj} (h : w.heap[g]? = some o) : w.drew.heap[g]? = some o := h
theorem bdr {B : Nat} {a w : World} (h : Below B a w) : Below B a w.drew := h.drew
theorem rep_src {w : World} {g q r d : Nat} {v z : Value} {t : TypeId} (h : w.heap[g]? = some (.cells (List.replicate q v ++ List.replicate r z).toArray t (0, 0))) (hd : d ≤ q) : 0 < (List.replicate d v).length → (some (⟨g, q, none⟩ : Addr)) = some ⟨g, q, none⟩ ∧ ∃ ad, (some (⟨g, 0, none⟩ : Addr)) = some ad ∧ ∀ j u, (List.replicate d v)[j]? = some u → w.drew.cell? (ad.add j) = some u := fun _ => ⟨rfl, ⟨g, 0, none⟩, rfl, fun j u hj => by
  have hj2 : j < d := by
    have := (List.getElem?_eq_some_iff.1 hj).1
    simpa using this
  have hu : u = v := by rw [List.getElem?_replicate, if_pos hj2] at hj; injection hj with hj; exact hj.symm
  subst hu
  have hc : w.cell? ⟨g, j, none⟩ = some u := by
    have h2 : w.cell? ⟨g, j, none⟩ = (List.replicate q u ++ List.replicate r z).toArray[j]? := by simp [World.cell?, h]
    rw [h2]
    simp only [List.getElem?_toArray]
    rw [List.getElem?_append_left (by simp; omega), List.getElem?_replicate, if_pos (by omega)]
  show w.cell? _ = _
  rcases Nat.eq_zero_or_pos j with h0 | h0
  · subst h0; simpa [Addr.add] using hc
  · rw [show (⟨g, 0, none⟩ : Addr).add j = ⟨g, j, none⟩ from by simp [Addr.add]; omega]; exact hc⟩
theorem add_num (q d : Nat) (h : q + d ≤ 1024) : Value.int .i64 (IntKind.i64.wrap ((q : Int) + (d : Int))) = .int .i64 ((q + d : Nat) : Int) := by
  congr 1
  rw [IntKind.wrap_i64]; omega
def RepPost (w : World) (v : Value) (m : Nat) (e : Ending) (w' : World) : Prop := ∃ g, e = .returned (.slice (some ⟨g, 0, none⟩) m m) ∧ Blk w' g 3 (tabV m fun _ => v) ∧ w.heap.size ≤ g ∧ Below w.heap.size w w'
set_option maxRecDepth 100000 in
set_option maxHeartbeats 3200000 in
theorem repeat_ok (w : World) (xa : Option Addr) (c : Nat) (z : Int) (hc : Cells w xa [.int .i64 z]) (m : Nat) (hm : m ≤ 1024) :
    Calls Try.prog 50 #[.slice xa 1 c, .int .i64 (m : Int)] w (RepPost w (.int .i64 z) m) := by
  obtain ⟨j0, hj0, yz0, yz1, yz2⟩ := info_parts int_infoC
  have hmk := run_make_n (P := Try.prog) 25 3 j0 (.int .i64 0) 1 8 Try.underlying25 hj0 yz0 yz1 yz2 .i64 .i64 m m (Nat.le_refl _) (by omega) (by omega)
  have e0 : madeCells (Value.int .i64 0).cells (m * 1) = tabV m fun _ => Value.int .i64 0 := made_rep m _
  rw [e0] at hmk
  clear e0
  have HMUL := Lib.hid (Try.bits_Mul 1 m (by omega) (by omega) w)
  rw [show 1 * m / 18446744073709551616 = 0 from by omega, show 1 * m % 18446744073709551616 = m from by omega] at HMUL
  have HMUL := Lib.hid (HMUL.out.mono fun e w' h => (⟨h.1, h.2.symm⟩ : e = _ ∧ w = w'))
  obtain ⟨xb, xo, hxa, hxl, hxc⟩ := hc.at_ (k := 0) rfl
  subst hxa
  rcases Nat.eq_zero_or_pos m with h0 | h0
  · subst h0
    have hmk0 : ∀ w : World, (Instr.makeSlice 25 (.int .i64 0) (.int .i64 0)).run Try.prog w = .ok (.slice (some ⟨w.heap.size, 0, none⟩) 0 0) (w.alloc (.cells (tabV 0 fun _ => Value.int .i64 0) 3)) := hmk
    clear hmk
    go_enter Try.func50, Try.ntmps50
    go_wp2_with fail
    refine HMUL.out.mono ?_
    rintro e w' ⟨rfl, rfl⟩
    go_wp2_with (refine wpList_copy_nothing rfl (.tmp 31) (.tmp 32) 25 25 rfl 3 Try.underlying25 int_size1 _ _ 0 0 1 c rfl rfl rfl ?_)
    go_wp2_with fail
    go_loopg [8] 0 (fun m x wr => x = .int .i64 0 ∧ Blk wr w.heap.size 3 (tabV 0 fun _ => .int .i64 z) ∧ Below w.heap.size w wr)
    case atStart => exact ⟨rfl, Blk.new_ w _ _, (Below.refl _ _).alloc (Nat.le_refl _) _⟩
    case round =>
      obtain ⟨rfl, hb, hbel⟩ := hrel
      have HB := Lib.hid hb; have HBEL := Lib.hid hbel
      clear hb hbel
      go_wp2_with fail
      go_ret
      exact ⟨w.heap.size, rfl, HB.out, Nat.le_refl _, HBEL.out⟩
  · have hm1 : min 1 m = 1 := Nat.min_eq_left h0
    have hxw : w.cell? ⟨xb, xo, none⟩ = some (.int .i64 z) := hxc
    have hx2 : (w.alloc (.cells (tabV m fun _ => Value.int .i64 0) 3)).cell? ⟨xb, xo, none⟩ = some (.int .i64 z) := (((Below.refl w.heap.size w).alloc (Nat.le_refl _) _).cell (p := ⟨xb, xo, none⟩) hxl).trans hxw
    have HX2 := Lib.hid hx2
    have HGG : Hid ((w.alloc (.cells (tabV m fun _ => Value.int .i64 0) 3)).heap[w.heap.size]? = some (.cells (List.replicate m (Value.int .i64 0)).toArray 3 (0, 0))) := Lib.hid (by rw [← tabV_rep]; exact Blk.new_ w _ _)
    have hbg := (Below.refl w.heap.size w).alloc (Nat.le_refl _) (.cells (tabV m fun _ => Value.int .i64 0) 3)
    have HBG := Lib.hid hbg
    clear hbg
    clear hx2 hxw hxc
    go_enter Try.func50, Try.ntmps50
    go_wp2_with fail
    refine HMUL.out.mono ?_
    rintro e w' ⟨rfl, rfl⟩
    have HFIT : Hid (0 + [Value.int .i64 z].length ≤ (List.replicate m (Value.int .i64 0)).length) := Lib.hid (by simp; omega)
    have HNN : Hid ([Value.int .i64 z].length = Nat.min 1 m) := Lib.hid hm1.symm
    go_wp2_with (refine wpList_copy_splice rfl (.tmp 31) (.tmp 32) 25 25 rfl 3 Try.underlying25 int_size1 (some ⟨w.heap.size, 0, none⟩) (some ⟨xb, xo, none⟩) m m 1 c rfl rfl w.heap.size 0 (List.replicate m (Value.int .i64 0)) 3 HGG.out [.int .i64 z] HNN.out (rep_pos HX2.out) HFIT.out (ones_int _) w.heap.size w HBG.out (Nat.le_refl _) ?_)
    intro w3 hg3 hb3
    have HG3 : Hid (w3.heap[w.heap.size]? = some (.cells (List.replicate 1 (Value.int .i64 z) ++ List.replicate (m - 1) (Value.int .i64 0)).toArray 3 (0, 0))) := Lib.hid (by
      have h := hg3.out
      have e := splice_rep (Value.int .i64 z) (Value.int .i64 0) 0 1 (m - 1)
      rw [show 1 + (m - 1) = m from by omega] at e
      simp only [List.replicate_zero, List.nil_append] at e
      rw [← e]; exact h)
    have HB3 := Lib.hid hb3
    clear hg3 hb3 hmk
    go_wp2_with fail
    go_loopg [8] (m - 1) (fun mm x wr => ∃ q, mm + q = m ∧ 1 ≤ q ∧ x = .int .i64 (q : Int) ∧ wr.heap[w.heap.size]? = some (.cells (List.replicate q (Value.int .i64 z) ++ List.replicate (m - q) (Value.int .i64 0)).toArray 3 (0, 0)) ∧ Below w.heap.size w wr)
    case atStart => exact ⟨1, by omega, Nat.le_refl _, rfl, HG3.out, HB3.out⟩
    case round =>
      obtain ⟨q, hq, hq1, rfl, hg, hb⟩ := hrel
      have HQ := Lib.hid hq; have HG := Lib.hid hg; have HB := Lib.hid hb
      have hsz := hb.size
      have hgl : w.heap.size < wr.heap.size := (Array.getElem?_eq_some_iff.1 hg).1
      clear hq hg hb
      by_cases hqm : q < m
      · obtain ⟨d, hd⟩ : ∃ d, min q (m - q) = d := ⟨_, rfl⟩
        have hd1 : 1 ≤ d := by omega
        have hdq : q + d ≤ m := by omega
        have hdq2 : d ≤ q := by omega
        have hle : q ≤ m := by omega
        have hne : ¬ m = q := by omega
        have HLEN : Hid ((List.replicate d (Value.int .i64 z)).length = Nat.min q (m - q)) := Lib.hid (by rw [List.length_replicate]; exact hd.symm)
        have HFIT : Hid (q + (List.replicate d (Value.int .i64 z)).length ≤ (List.replicate q (Value.int .i64 z) ++ List.replicate (m - q) (Value.int .i64 0)).length) := Lib.hid (by simp; omega)
        have HD := Lib.hid hd
        have hone : ∀ v ∈ List.replicate d (Value.int .i64 z), v.oneCell' = true := fun v hv => by rw [(List.mem_replicate.1 hv).2]; rfl
        have HONE := Lib.hid hone
        clear hd hone
        go_wp2_with fail
        go_region_law (refine step_copy_splice rfl (.tmp 41) (.tmp 44) 25 25 rfl 3 Try.underlying25 int_size1 (some ⟨w.heap.size, q, none⟩) (some ⟨w.heap.size, 0, none⟩) (m - q) (m - q) q m (by simp [Act.eval, Act.put]) (by simp [Act.eval, Act.put]) w.heap.size q (List.replicate q (Value.int .i64 z) ++ List.replicate (m - q) (Value.int .i64 0)) 3 (hgr HG.out) (List.replicate d (Value.int .i64 z)) HLEN.out (rep_src HG.out hdq2) HFIT.out HONE.out w.heap.size w (bdr HB.out) (Nat.le_refl _) ?_; intro w4 hg4 hb4)
        all_goals
          have HG4 : Hid (w4.heap[w.heap.size]? = some (.cells (List.replicate (q + d) (Value.int .i64 z) ++ List.replicate (m - (q + d)) (Value.int .i64 0)).toArray 3 (0, 0))) := Lib.hid (by
            have h := hg4.out
            have e := splice_rep (Value.int .i64 z) (Value.int .i64 0) q d (m - (q + d))
            rw [show d + (m - (q + d)) = m - q from by omega] at e
            rw [← e]; exact h)
          have HB4 := Lib.hid hb4
          clear hg4 hb4
          go_wp2_with fail
          go_roundg (m - (q + d))
          case measure => have := HQ.out; omega
          case rel => exact ⟨q + d, by omega, by omega, add_num q d (by omega), HG4.out, HB4.out⟩
      · have hqe : q = m := by have := HQ.out; omega
        subst hqe
        go_wp2_with fail
        go_ret
        refine ⟨w.heap.size, rfl, ?_, Nat.le_refl _, HB.out⟩
        have h := HG.out
        rw [Nat.sub_self, List.replicate_zero, List.append_nil, ← tabV_rep] at h
        exact h
theorem find_at {p : Nat → Bool} {l : List Nat} {i x : Nat} (h : (l.take i).findIdx? p = none) (hx : l[i]? = some x) (hp : p x = true) : l.findIdx? p = some i := by
  have hi := (List.getElem?_eq_some_iff.1 hx).1
  have e : l = l.take i ++ (x :: l.drop (i + 1)) := by
    have h2 := (List.getElem?_eq_some_iff.1 hx).2
    rw [← h2, ← List.drop_eq_getElem_cons hi, List.take_append_drop]
  rw [e, List.findIdx?_append, h, List.findIdx?_cons, hp]
  simp; omega
/-- where a list first says yes -/
def idxZ (p : Nat → Bool) (l : List Nat) : Int :=
  match l.findIdx? p with
  | some i => (i : Int)
  | none => -1
set_option maxRecDepth 100000 in
set_option maxHeartbeats 1600000 in
theorem index_ok (w : World) (a : Option Addr) (l : List Nat) (c : Nat) (hl : l.length ≤ 1024) (hc : Cells w a (iV l)) (gf : FuncId) (cap : Array Value) (hcf : ∀ (args : Array Value) (w : World), (callFunc gf args).run Try.prog w = .ok (.enter gf args) w) (p : Nat → Bool)
    (hp : ∀ x ∈ l, Calls Try.prog gf (#[.int .i64 (x : Int)] ++ cap) w fun e w' => e = .returned (.bool (p x)) ∧ w = w') :
    Calls Try.prog 51 #[.slice a l.length c, .func (.func gf) #[] cap] w fun e w' => e = .returned (.int .i64 (idxZ p l)) ∧ w = w' := by
  obtain ⟨N, hN⟩ : ∃ N, l.length = N := ⟨_, rfl⟩
  have HN := Lib.hid hN; have HC := Lib.hid hc; have HP := Lib.hid hp
  rw [hN] at hl ⊢
  clear hN hc hp
  go_enter Try.func51, Try.ntmps51
  go_wp2_with fail
  go_loopg [5, 8] N (fun m y x wr => ∃ i : Nat, m + i = N ∧ x = .int .i64 (i : Int) ∧ (l.take i).findIdx? p = none ∧ w = wr)
  case atStart => exact ⟨0, rfl, rfl, rfl, rfl⟩
  case round =>
    obtain ⟨i, hm, rfl, hno, rfl⟩ := hrel
    have HM := Lib.hid hm; have HNO := Lib.hid hno
    clear hm hno
    by_cases hi : i < N
    · obtain ⟨x, hx⟩ : ∃ x, l[i]? = some x := ⟨_, List.getElem?_eq_getElem (by rw [HN.out]; exact hi)⟩
      obtain ⟨xb, xo, hxa, hxl, hxc⟩ := HC.out.at_ (k := i) (v := .int .i64 (x : Int)) (by unfold iV; rw [List.getElem?_map, hx]; rfl)
      subst hxa
      have HX := Lib.hid hx
      have HPX := Lib.hid (HP.out x (List.mem_of_getElem? hx))
      clear hx
      go_wp2_with fail
      refine HPX.out.mono ?_
      rintro e w' ⟨rfl, rfl⟩
      cases hpx : p x with
      | true =>
        have HPT := Lib.hid hpx
        clear hpx
        go_wp2_with fail
        go_ret
        refine ⟨?_, rfl⟩
        have e : l.findIdx? p = some i := find_at HNO.out HX.out HPT.out
        unfold idxZ
        rw [e]
        rfl
      | false =>
        have HPT := Lib.hid hpx
        clear hpx
        go_wp2_with fail
        go_roundg (N - (i + 1))
        case measure => have := HM.out; omega
        case rel => exact ⟨i + 1, by have := HM.out; omega, by go_num, by rw [List.take_add_one, HX.out, List.findIdx?_append, HNO.out]; simp [HPT.out], rfl⟩
    · have hiN : i = N := by have := HM.out; omega
      subst hiN
      have HNO2 : Hid (l.findIdx? p = none) := Lib.hid (by have h := HNO.out; rw [List.take_of_length_le (by rw [HN.out]; exact Nat.le_refl _)] at h; exact h)
      go_wp2_with fail
      go_ret
      refine ⟨?_, rfl⟩
      unfold idxZ
      rw [HNO2.out]
      rfl
end Go.Proofs.Ytbancojknahdgaa

/- WholeStore: the walk. -/
import Derived.Test.YtobhjkfkdkiigaaGreatDoorWhoA
namespace Go.Proofs.YtobhjkfkdkiigaaGreatDoor
open Go.RowKit HP NP LY
def Fine9 (w : World) (e : Ending) (w' : World) : Prop := e = .returned (.bool true) ∧ Below w.heap.size w w'
theorem nnew9 (w : World) (B : Nat) (hB : B ≤ w.heap.size) : Calls Tryz.prog 4 #[.int .i64 8, .int .i64 4000] w fun e w' => ∃ p, e = .returned (.tuple #[.pointer (some ⟨p, 0, none⟩), .int .i64 0]) ∧ Sto w' B p (newS 8 4000) ∧ Below w.heap.size w w' ∧ w.heap.size ≤ p :=
  (nnew_ok w B hB 8 4000).mono fun e w' hh => by
    rcases hh with ⟨_, hh⟩ | ⟨h0, _⟩
    · exact hh
    · rw [show okNew 8 4000 = true by decide] at h0; cases h0
theorem dep_ab (L : List (List Nat)) : Dep (VD [0, 1]) (rowsG [0, 1] L) := rowsG_dep (by decide) L
theorem cells_blk2 {w : World} {b : Nat} {t : TypeId} {x y : Value} (h : Blk w b t #[x, y]) : Cells w (some ⟨b, 0, none⟩) [x, y] := fun _ => ⟨b, 0, rfl, h.lt, fun i v hv => by
  rw [Nat.zero_add, h.cell, ← Array.getElem?_toList]; exact hv⟩
set_option maxRecDepth 100000 in
set_option maxHeartbeats 6400000 in
theorem wholeStore_walk (w : World) (hML : MaxL w) (ea : Option Addr) (ca : Nat) (la : List (Int × Int)) (_hla : la.length ≤ ca) (_hma : ca ≤ maxLen) (hca : Cells w ea (la.flatMap pairCells)) (_wfa : ∀ y ∈ la, wfI y.1 ∧ wfI y.2)
    (eb : Option Addr) (cbb : Nat) (lb : List (Int × Int)) (_hlb : lb.length ≤ cbb) (_hmb : cbb ≤ maxLen) (hcb : Cells w eb (lb.flatMap pairCells)) (_wfb : ∀ y ∈ lb, wfI y.1 ∧ wfI y.2) (sw : Int) (_wsw : (Lit.int .i64 sw).wf = true) :
    Calls Tryz.prog 3 #[.slice ea la.length ca, .slice eb lb.length cbb, .int .i64 sw] w (Fine9 w) := by
  obtain ⟨N, hN⟩ : ∃ N, la.length = N := ⟨_, rfl⟩
  obtain ⟨M, hM⟩ : ∃ M, lb.length = M := ⟨_, rfl⟩
  rw [hN, hM]
  have HN := Lib.hid hN; have HM := Lib.hid hM; have HCA := Lib.hid hca; have HCB := Lib.hid hcb; have HML := Lib.hid hML
  clear hN hM _hla _hma _wfa _hlb _hmb _wfb _wsw hca hcb hML
  by_cases h1 : 20 < N
  · have d1 : decide ((20 : Int) < ((N : Nat) : Int)) = true := decide_eq_true (by omega)
    clear h1
    go_enter Tryz.func3, Tryz.ntmps3
    go_wp2_with fail
    go_ret
    exact ⟨rfl, Below.refl _ _⟩
  by_cases h2 : 20 < M
  · have d1 : decide ((20 : Int) < ((N : Nat) : Int)) = false := decide_eq_false (by omega)
    have d2 : decide ((20 : Int) < ((M : Nat) : Int)) = true := decide_eq_true (by omega)
    clear h1 h2
    go_enter Tryz.func3, Tryz.ntmps3
    go_wp2_with fail
    go_ret
    exact ⟨rfl, Below.refl _ _⟩
  have d1 : decide ((20 : Int) < ((N : Nat) : Int)) = false := decide_eq_false (by omega)
  have d2 : decide ((20 : Int) < ((M : Nat) : Int)) = false := decide_eq_false (by omega)
  have hN20 : N ≤ 20 := by omega
  have hM20 : M ≤ 20 := by omega
  clear h1 h2
  go_enter Tryz.func3, Tryz.ntmps3
  go_wp2_with fail
  obtain ⟨B, hB⟩ : ∃ B, w.heap.size = B := ⟨_, rfl⟩
  refine (nnew9 w w.heap.size (Nat.le_refl _)).mono ?_
  rintro e w1 ⟨p, rfl, hst1, hb1, hp1⟩
  rw [hB] at hst1
  have HB := Lib.hid hB
  have HB1 := Lib.hid hb1; have HS1 := Lib.hid hst1
  have hsz1 : B ≤ w1.heap.size := by rw [← hB]; exact hb1.size
  have HSZ1 := Lib.hid hsz1
  clear hst1 hb1 hp1 d1 d2 hsz1 hB
  go_wp2_with fail
  refine (onew_ok w1 B p (newS 8 4000) HS1.out HSZ1.out (by decide)).mono ?_
  rintro e w2 ⟨q, rfl, hop2, hq2, hb2⟩
  have HB2 := Lib.hid (HB1.out.trans (hb2.mono HB1.out.size)); have HS2 := Lib.hid (HS1.out.below hb2); have HO2 := Lib.hid hop2
  clear hop2 hq2 hb2 HS1 HB1
  go_wp2_with fail
  refine (qnew_ok w2 B p q (newS 8 4000) HO2.out).mono ?_
  rintro e w3 ⟨qn, rfl, hqu3, hq3, hb3⟩
  have HB3 := Lib.hid (HB2.out.trans (hb3.mono HB2.out.size)); have HS3 := Lib.hid (HS2.out.below hb3); have HO3 := Lib.hid (HO2.out.below hb3); have HQ3 := Lib.hid hqu3
  clear hqu3 hq3 hb3 HS2 HO2 HB2
  go_wp2_with fail
  obtain ⟨w4, hw4⟩ : ∃ w4, w4 = w3.alloc (.cells #[.string ⟨#[65]⟩, .int .i64 4, .string ⟨#[66]⟩, .int .i64 4, .string ⟨#[67]⟩, .int .i64 4, .string ⟨#[68]⟩, .int .i64 4] 37) := ⟨_, rfl⟩
  have hb4 : Below w3.heap.size w3 w4 := by rw [hw4]; exact (Below.refl _ _).alloc (Nat.le_refl _) _
  have hd4 : Cells w4 (some ⟨w3.heap.size, 0, none⟩) (d4.flatMap domCells) := by rw [hw4]; exact Cells.lit w3 #[.string ⟨#[65]⟩, .int .i64 4, .string ⟨#[66]⟩, .int .i64 4, .string ⟨#[67]⟩, .int .i64 4, .string ⟨#[68]⟩, .int .i64 4] 37
  rw [← hw4]
  have HB4 := Lib.hid (HB3.out.trans (hb4.mono HB3.out.size)); have HS4 := Lib.hid (HS3.out.below hb4); have HO4 := Lib.hid (HO3.out.below hb4); have HQ4 := Lib.hid (HQ3.out.below hb4 HQ3.out.lt)
  have HCN := Lib.hid (cnew_ok w4 B p q qn (newS 8 4000) HS4.out HO4.out HQ4.out rfl (HML.out.below HB4.out) w3.heap.size 0 4 hd4)
  clear hw4 hb4 hd4 HB3 HS3 HO3 HQ3
  refine HCN.out.mono ?_
  rintro e w5 ⟨hb5, cb, rfl, hco5⟩
  have HB5 := Lib.hid (HB4.out.trans (hb5.mono HB4.out.size))
  have HCD5 : Hid (Cd w5 B p q qn cb (newS 8 4000)) := Lib.hid ⟨HS4.out.below hb5, HO4.out.below hb5, HQ4.out.below hb5 HQ4.out.lt, hco5, rfl, by have := HB5.out.size; rw [HB.out] at this; exact this⟩
  clear hb5 hco5 HCN HB4 HS4 HO4 HQ4
  go_wp2_with fail
  refine (rnew_ok w5 B p q qn cb (newS 8 4000) HCD5.out (by decide)).mono ?_
  rintro e w6 ⟨xb, rfl, hrl6, hb6⟩
  have HB6 := Lib.hid (HB5.out.trans (hb6.mono HB5.out.size)); have HRL6 := Lib.hid hrl6
  clear hrl6 hb6 HCD5 HB5
  go_wp2_with fail
  go_loopg [17, 19] N (fun mm v x wr => ∃ i : Nat, mm + i = N ∧ x = .int .i64 (i : Int) ∧ RowsV wr v (rowsW (la.take i)) ∧ Below w6.heap.size w6 wr)
  case atStart => exact ⟨0, by omega, rfl, .inl ⟨rfl, rfl⟩, Below.refl _ _⟩
  case round =>
    obtain ⟨i, hm, rfl, hrow, hb⟩ := hrel
    have HMM := Lib.hid hm; have HROW := Lib.hid hrow; have HBB := Lib.hid hb
    clear hm hrow hb
    by_cases hi : i < N
    ·
      obtain ⟨x, hx⟩ : ∃ x, la[i]? = some x := ⟨_, List.getElem?_eq_getElem (by rw [HN.out]; exact hi)⟩
      obtain ⟨b, off, hea, hbl, k0, k1⟩ := ((HCA.out.below HB6.out).below HBB.out).pair hx
      subst hea
      have HNX := Lib.hid (rowsW_next hx)
      have hlen := rowsW_len (la.take i)
      obtain ⟨L, hL⟩ : ∃ L, rowsW (la.take i) = L := ⟨_, rfl⟩
      rw [hL] at HNX hlen HROW
      obtain ⟨x0, x1⟩ := x
      clear hx hL
      simp only at k0 k1
      have a0 := m3_ok x0; have a1 := m3_ok x1
      obtain ⟨r0, hr0⟩ : ∃ r0, m3 x0 = r0 := ⟨_, rfl⟩
      obtain ⟨r1, hr1⟩ : ∃ r1, m3 x1 = r1 := ⟨_, rfl⟩
      unfold rowP at HNX
      simp only at HNX
      rw [hr0] at a0 HNX
      rw [hr1] at a1 HNX
      clear hr0 hr1
      have hid : decide (((i : Nat) : Int) < ((N : Nat) : Int)) = true := decide_eq_true (by omega)
      have hip : ((i : Nat) : Int) < ((N : Nat) : Int) := by omega
      have hip0 : (0 : Int) ≤ ((i : Nat) : Int) := by omega
      have HI := Lib.hid hi
      have HKB : Hid (∀ W, Below wr.heap.size wr W → W.cell? ⟨b, off + i * 2, none⟩ = some (.int .i64 x0) ∧ W.cell? ⟨b, off + i * 2 + 1, none⟩ = some (.int .i64 x1)) := Lib.hid fun W hW => ⟨(hW.cell (p := ⟨b, off + i * 2, none⟩) hbl).trans k0, (hW.cell (p := ⟨b, off + i * 2 + 1, none⟩) hbl).trans k1⟩
      have HPR : Hid (Calls Tryz.prog 9 #[u17, .slice (some ⟨wr.heap.size, 0, none⟩) 2 2] (wr.alloc (.cells #[.int .i64 (r0 : Int), .int .i64 (r1 : Int)] 3)).drew fun e w' => Below (wr.alloc (.cells #[.int .i64 (r0 : Int), .int .i64 (r1 : Int)] 3)).drew.heap.size (wr.alloc (.cells #[.int .i64 (r0 : Int), .int .i64 (r1 : Int)] 3)).drew w' ∧ ∃ v, e = .returned v ∧ RowsV w' v (putL L [(r0 : Int), (r1 : Int)])) := Lib.hid (putrow_ok _ _ L _ 2 [(r0 : Int), (r1 : Int)] (HROW.out.below ((Below.refl _ _).alloc (Nat.le_refl _) _).drew) (by omega) (by simp) ⟨(Cells.lit wr _ _).drew_, tb_some ⟨_, (Blk.new_ wr _ _).drew_⟩⟩)
      have HBA : Hid (Below wr.heap.size wr (wr.alloc (.cells #[.int .i64 (r0 : Int), .int .i64 (r1 : Int)] 3)).drew) := Lib.hid ((Below.refl _ _).alloc (Nat.le_refl _) _).drew
      clear k0 k1 HROW hi
      go_upto_region 14 with (fail)
      go_region_held3 (fun w' => w'.cell? ⟨b, off + i * 2, none⟩ = some (.int .i64 x0) ∧ w'.cell? ⟨b, off + i * 2 + 1, none⟩ = some (.int .i64 x1))
        (first | with_reducible exact HKB.out _ HB3.out.1 | with_reducible exact HKB.out _ (Below.refl _ _).drew | with_reducible exact HKB.out _ HBA.out) ((go_at_call 9; ((with_reducible refine HPR.out.mono ?_); rintro e w7 ⟨hb3, v3, rfl, hr3⟩; have HB3 := Lib.hid (And.intro (HBA.out.trans (hb3.mono HBA.out.size)) hr3); clear hb3 hr3)))
      have HB8 := Lib.hid (HBB.out.trans (HB3.out.1.mono HBB.out.size))
      have HR3 : Hid (RowsV w7 v3 (rowsW (la.take (i + 1)))) := Lib.hid (by rw [HNX.out]; exact HB3.out.2)
      clear HPR HB3 HBA HKB a0 a1 hbl
      go_wp2_with fail
      go_roundg (N - (i + 1))
      case measure => have := HMM.out; have := HI.out; omega
      case rel => exact ⟨i + 1, by have := HMM.out; have := HI.out; omega, by go_num, HR3.out, HB8.out⟩
    · have hiN : i = N := by have := HMM.out; omega
      subst hiN
      obtain ⟨w7, rfl⟩ : ∃ w7, w7 = wr := ⟨_, rfl⟩
      have HR7 : Hid (RowsV w7 u17 (rowsW la)) := Lib.hid (by have := HROW.out; rwa [← HN.out, List.take_length] at this)
      have HB7 := HBB
      have HRL7 := Lib.hid (HRL6.out.below HBB.out)
      clear HROW HMM HRL6
      go_wp2_with fail
      clear hi
      go_loopg [18, 20] M (fun mm v x wr => ∃ i : Nat, mm + i = M ∧ x = .int .i64 (i : Int) ∧ RowsV wr v (rowsW (lb.take i)) ∧ Below w7.heap.size w7 wr)
      case atStart => exact ⟨0, by omega, rfl, .inl ⟨rfl, rfl⟩, Below.refl _ _⟩
      case round =>
        obtain ⟨i, hm, rfl, hrow, hb⟩ := hrel
        have HMM := Lib.hid hm; have HROW := Lib.hid hrow; have HBB := Lib.hid hb
        clear hm hrow hb
        by_cases hi : i < M
        ·
          obtain ⟨x, hx⟩ : ∃ x, lb[i]? = some x := ⟨_, List.getElem?_eq_getElem (by rw [HM.out]; exact hi)⟩
          obtain ⟨b, off, heb, hbl, k0, k1⟩ := (((HCB.out.below HB6.out).below HB7.out).below HBB.out).pair hx
          subst heb
          have HNX := Lib.hid (rowsW_next hx)
          have hlen := rowsW_len (lb.take i)
          obtain ⟨L, hL⟩ : ∃ L, rowsW (lb.take i) = L := ⟨_, rfl⟩
          rw [hL] at HNX hlen HROW
          obtain ⟨x0, x1⟩ := x
          clear hx hL
          simp only at k0 k1
          have a0 := m3_ok x0; have a1 := m3_ok x1
          obtain ⟨r0, hr0⟩ : ∃ r0, m3 x0 = r0 := ⟨_, rfl⟩
          obtain ⟨r1, hr1⟩ : ∃ r1, m3 x1 = r1 := ⟨_, rfl⟩
          unfold rowP at HNX
          simp only at HNX
          rw [hr0] at a0 HNX
          rw [hr1] at a1 HNX
          clear hr0 hr1
          have hid : decide (((i : Nat) : Int) < ((M : Nat) : Int)) = true := decide_eq_true (by omega)
          have hip : ((i : Nat) : Int) < ((M : Nat) : Int) := by omega
          have hip0 : (0 : Int) ≤ ((i : Nat) : Int) := by omega
          have HI := Lib.hid hi
          have HKB : Hid (∀ W, Below wr.heap.size wr W → W.cell? ⟨b, off + i * 2, none⟩ = some (.int .i64 x0) ∧ W.cell? ⟨b, off + i * 2 + 1, none⟩ = some (.int .i64 x1)) := Lib.hid fun W hW => ⟨(hW.cell (p := ⟨b, off + i * 2, none⟩) hbl).trans k0, (hW.cell (p := ⟨b, off + i * 2 + 1, none⟩) hbl).trans k1⟩
          have HPR : Hid (Calls Tryz.prog 9 #[u18, .slice (some ⟨wr.heap.size, 0, none⟩) 2 2] (wr.alloc (.cells #[.int .i64 (r0 : Int), .int .i64 (r1 : Int)] 3)).drew fun e w' => Below (wr.alloc (.cells #[.int .i64 (r0 : Int), .int .i64 (r1 : Int)] 3)).drew.heap.size (wr.alloc (.cells #[.int .i64 (r0 : Int), .int .i64 (r1 : Int)] 3)).drew w' ∧ ∃ v, e = .returned v ∧ RowsV w' v (putL L [(r0 : Int), (r1 : Int)])) := Lib.hid (putrow_ok _ _ L _ 2 [(r0 : Int), (r1 : Int)] (HROW.out.below ((Below.refl _ _).alloc (Nat.le_refl _) _).drew) (by omega) (by simp) ⟨(Cells.lit wr _ _).drew_, tb_some ⟨_, (Blk.new_ wr _ _).drew_⟩⟩)
          have HBA : Hid (Below wr.heap.size wr (wr.alloc (.cells #[.int .i64 (r0 : Int), .int .i64 (r1 : Int)] 3)).drew) := Lib.hid ((Below.refl _ _).alloc (Nat.le_refl _) _).drew
          clear k0 k1 HROW hi
          go_upto_region 18 with (fail)
          go_region_held3 (fun w' => w'.cell? ⟨b, off + i * 2, none⟩ = some (.int .i64 x0) ∧ w'.cell? ⟨b, off + i * 2 + 1, none⟩ = some (.int .i64 x1))
            (first | with_reducible exact HKB.out _ HB3.out.1 | with_reducible exact HKB.out _ (Below.refl _ _).drew | with_reducible exact HKB.out _ HBA.out) ((go_at_call 9; ((with_reducible refine HPR.out.mono ?_); rintro e w7 ⟨hb3, v3, rfl, hr3⟩; have HB3 := Lib.hid (And.intro (HBA.out.trans (hb3.mono HBA.out.size)) hr3); clear hb3 hr3)))
          have HB8 := Lib.hid (HBB.out.trans (HB3.out.1.mono HBB.out.size))
          have HR3 : Hid (RowsV w7 v3 (rowsW (lb.take (i + 1)))) := Lib.hid (by rw [HNX.out]; exact HB3.out.2)
          clear HPR HB3 HBA HKB a0 a1 hbl
          go_wp2_with fail
          go_roundg (M - (i + 1))
          case measure => have := HMM.out; have := HI.out; omega
          case rel => exact ⟨i + 1, by have := HMM.out; have := HI.out; omega, by go_num, HR3.out, HB8.out⟩
        · have hiM : i = M := by have := HMM.out; omega
          subst hiM
          have HRB8 : Hid (RowsV wr u18 (rowsW lb)) := Lib.hid (by have := HROW.out; rwa [← HM.out, List.take_length] at this)
          have HRA8 := Lib.hid (HR7.out.below HBB.out)
          have HRL8 := Lib.hid (HRL7.out.below HBB.out)
          have HB8 : Hid (Below w.heap.size w wr) := Lib.hid ((HB6.out.trans (HB7.out.mono HB6.out.size)).trans (HBB.out.mono (Nat.le_trans HB6.out.size HB7.out.size)))
          clear HROW HMM HRL7 HR7
          obtain ⟨ta, tca, rfl, hta⟩ := HRA8.out.val
          obtain ⟨tb, tcb, rfl, htb⟩ := HRB8.out.val
          have HTA := Lib.hid hta; have HTB := Lib.hid htb
          clear hta htb HRA8 HRB8
          obtain ⟨w8, rfl⟩ : ∃ w8, w8 = wr := ⟨_, rfl⟩
          rw [← rowsN_len la, ← rowsN_len lb]
          have HTA' : Hid (0 < (rowsN la).length → RowsT w8 ta ((rowsN la).map zN)) := Lib.hid fun h => by rw [rowsN_zN]; exact HTA.out (by rw [← rowsN_len]; exact h)
          have HTB' : Hid (0 < (rowsN lb).length → RowsT w8 tb ((rowsN lb).map zN)) := Lib.hid fun h => by rw [rowsN_zN]; exact HTB.out (by rw [← rowsN_len]; exact h)
          clear HTA HTB
          go_wp2_with fail
          obtain ⟨w9, hw9⟩ : ∃ w9, w9 = (w8.alloc (.cells #[.string sX, .string sY] 9)).alloc (.cells #[.int .i64 0, .int .i64 1] 3) := ⟨_, rfl⟩
          have hb9 : Below w8.heap.size w8 w9 := by rw [hw9]; exact ((Below.refl _ _).alloc (Nat.le_refl _) _).alloc (by simp) _
          have hs9 : Blk w9 w8.heap.size 9 #[.string sX, .string sY] := by rw [hw9]; exact (Blk.new_ _ _ _).alloc_ _
          have hd9 : Blk w9 (w8.heap.size + 1) 3 #[.int .i64 0, .int .i64 1] := by
            rw [hw9]
            have := Blk.new_ (w8.alloc (.cells #[.string sX, .string sY] 9)) 3 #[.int .i64 0, .int .i64 1]
            simpa using this
          rw [← hw9]
          have HMK := Lib.hid (make9 w9 B p q qn cb xb (newS 8 4000) (HRL8.out.below hb9) (some ⟨w8.heap.size, 0, none⟩) 2 sX sY nm_xy9 (cells_blk2 hs9) (some ⟨w8.heap.size + 1, 0, none⟩) 2 0 1 (by decide) (by decide) (by decide) ⟨cells_blk2 hd9, tb_some ⟨_, hd9⟩⟩ ta tca la (fun h => (HTA'.out h).below hb9) (by decide))
          have HB9 := Lib.hid (HB8.out.trans (hb9.mono HB8.out.size)); have HTA9 : Hid (0 < (rowsN la).length → RowsT w9 ta ((rowsN la).map zN)) := Lib.hid fun h => (HTA'.out h).below hb9
          have HTB9 : Hid (0 < (rowsN lb).length → RowsT w9 tb ((rowsN lb).map zN)) := Lib.hid fun h => (HTB'.out h).below hb9
          clear hw9 hb9 hs9 hd9 HTA' HTB' HB8
          refine HMK.out.mono ?_
          rintro e w10 ⟨S1, aa, ac, ad, ac', k, rfl, hro, hrl, hks, hgo⟩
          have HRO := Lib.hid hro; have HRL := Lib.hid hrl; have HKS := Lib.hid hks; have HGO := Lib.hid hgo
          clear hro hrl hks hgo HMK HRL8
          go_upto_region 20 with (fail)
          obtain ⟨w11, hw11⟩ : ∃ w11, w11 = w10.alloc (.cells #[.slice aa 2 ac, .slice ad 2 ac', .int .i64 (k : Int)] 48) := ⟨_, rfl⟩
          obtain ⟨gr, hgr⟩ : ∃ gr, gr = w10.heap.size := ⟨_, rfl⟩
          have hb11 : Below w10.heap.size w10 w11 := by rw [hw11]; exact (Below.refl _ _).alloc (Nat.le_refl _) _
          have hx11 : Blk w11 gr 48 #[.slice aa 2 ac, .slice ad 2 ac', .int .i64 (k : Int)] := by rw [hw11, hgr]; exact Blk.new_ _ _ _
          rw [← hw11, ← hgr]
          have HX11 := Lib.hid hx11; have HRL11 := Lib.hid (HRL.out.below hb11); have HRO11 := Lib.hid (HRO.out.below hb11)
          have HTA11 : Hid (0 < (rowsN la).length → RowsT w11 ta ((rowsN la).map zN)) := Lib.hid fun h => ((HTA9.out h).kb HKS.out.kb rfl rfl).below hb11
          have HTB11 : Hid (0 < (rowsN lb).length → RowsT w11 tb ((rowsN lb).map zN)) := Lib.hid fun h => ((HTB9.out h).kb HKS.out.kb rfl rfl).below hb11
          have HBB11 : Hid (Below B w w11) := Lib.hid (by
            have h1 := HB9.out
            rw [HB.out] at h1
            exact (h1.trans HKS.out.low).trans (hb11.mono HRL.out.cd.low))
          clear hw11 hgr hb11 hx11 HB9 HTA9 HTB9 HRL HRO HKS
          have HPIN := Lib.hid (pin9_ok w11 B p q qn cb xb S1 HRL11.out k HRO11.out.is (by have h1 := HGO.out.pin k; have h2 := newS_pins k; omega))
          have c2 : w11.cell? ⟨gr, 2, none⟩ = some (.int .i64 (k : Int)) := HX11.out.cell 2
          have cl := HX11.out.lt
          go_wp2_with fail
          refine HPIN.out.mono ?_
          rintro e w12 ⟨rfl, S2, hrl, hkp, halk, hbud, hsw2, hpin⟩
          have hden2 : Den S2 k (rowsG [0, 1] (rowsN la)) := HGO.out.den.alk halk
          have HD2 := Lib.hid hden2; have HRL12 := Lib.hid hrl; have HPN2 := Lib.hid hpin
          have HRO12 : Hid (RelOk w12 S2 ⟨aa, ac, ad, ac', 2, [sX, sY], [0, 1], k⟩) := Lib.hid (HRO11.out.re hkp.kb rfl rfl hden2 (dep_ab _))
          have HX12 := Lib.hid (hkp.blk HX11.out rfl)
          have HTA12 : Hid (0 < (rowsN la).length → RowsT w12 ta ((rowsN la).map zN)) := Lib.hid fun h => (HTA11.out h).kb hkp.kb rfl rfl
          have HTB12 : Hid (0 < (rowsN lb).length → RowsT w12 tb ((rowsN lb).map zN)) := Lib.hid fun h => (HTB11.out h).kb hkp.kb rfl rfl
          have HBB12 : Hid (Below B w w12) := Lib.hid (HBB11.out.trans (hkp.low HRL11.out.cd.low))
          have HBU2 : Hid (S2.budget = 4000) := Lib.hid (by rw [hbud, HGO.out.ext.budget]; rfl)
          have HCT2 : Hid (NP.cnt S2.l ≤ 306) := Lib.hid (by rw [halk.cnt]; exact HGO.out.cnt)
          have HSW2 : Hid (S2.sweeps = 0) := Lib.hid (by rw [hsw2, HGO.out.sw]; rfl)
          clear hrl hkp halk hbud hsw2 hpin hden2 HPIN c2 cl HX11 HRL11 HRO11 HTA11 HTB11 HBB11 HGO
          have aK := m3_ok sw; have hK4 := m3_lt sw
          obtain ⟨K, hK⟩ : ∃ K, m3 sw = K := ⟨_, rfl⟩
          rw [hK] at aK hK4
          clear hK
          go_wp2_with fail
          go_loopg [23] K (fun mm x wr => ∃ (i : Nat) (S : NS), mm + i = K ∧ x = .int .i64 (i : Int) ∧ Rl wr B p q qn cb xb S ∧ Den S k (rowsG [0, 1] (rowsN la)) ∧ 0 < (nd S.l k).pins ∧ S.budget = 4000 ∧ NP.cnt S.l ≤ 306 + i * 1000 ∧ S.sweeps = i ∧ Ks TX' B w12 wr)
          case atStart => exact ⟨0, S2, by omega, rfl, HRL12.out, HD2.out, HPN2.out, HBU2.out, HCT2.out, HSW2.out, Ks.refl _ _ _⟩
          case round =>
            obtain ⟨i3, S3, hm, rfl, hrl, hdn, hpn, hbu, hct, hsw3, hks⟩ := hrel
            have HM3 := Lib.hid hm; have HRL3 := Lib.hid hrl; have HD3 := Lib.hid hdn; have HPN3 := Lib.hid hpn; have HBU3 := Lib.hid hbu; have HCT3 := Lib.hid hct; have HSW3 := Lib.hid hsw3; have HKS3 := Lib.hid hks
            clear hm hrl hdn hpn hbu hct hsw3 hks
            by_cases hi3 : i3 < K
            ·
              have hid3 : decide (((i3 : Nat) : Int) < ((K : Nat) : Int)) = true := decide_eq_true (by omega)
              have hi33 : i3 < 3 + 1 := by omega
              have HI3 := Lib.hid hi3; have HI33 := Lib.hid hi33
              obtain ⟨w13, rfl⟩ : ∃ w13, w13 = wr := ⟨_, rfl⟩
              go_wp2_with fail
              obtain ⟨w14, hw14⟩ : ∃ w14, w14 = (w13.alloc (.cells #[.string sY, .string sZ] 9)).alloc (.cells #[.int .i64 2, .int .i64 1] 3) := ⟨_, rfl⟩
              have hb14 : Below w13.heap.size w13 w14 := by rw [hw14]; exact ((Below.refl _ _).alloc (Nat.le_refl _) _).alloc (by simp) _
              have hs14 : Blk w14 w13.heap.size 9 #[.string sY, .string sZ] := by rw [hw14]; exact (Blk.new_ _ _ _).alloc_ _
              have hd14 : Blk w14 (w13.heap.size + 1) 3 #[.int .i64 2, .int .i64 1] := by
                rw [hw14]
                have := Blk.new_ (w13.alloc (.cells #[.string sY, .string sZ] 9)) 3 #[.int .i64 2, .int .i64 1]
                simpa using this
              rw [← hw14]
              have HKS14 : Hid (Ks TX' B w12 w14) := Lib.hid (HKS3.out.trans (Ks.below hb14 HRL3.out.cd.low))
              have HMK := Lib.hid (make9 w14 B p q qn cb xb S3 (HRL3.out.below hb14) (some ⟨w13.heap.size, 0, none⟩) 2 sY sZ nm_yz9 (cells_blk2 hs14) (some ⟨w13.heap.size + 1, 0, none⟩) 2 2 1 (by decide) (by decide) (by decide) ⟨cells_blk2 hd14, tb_some ⟨_, hd14⟩⟩ tb tcb lb (fun h => (HTB12.out h).kb HKS14.out.kb rfl rfl) (by have := HCT3.out; have := HBU3.out; have := HI33.out; omega))
              clear hw14 hb14 hs14 hd14
              refine HMK.out.mono ?_
              rintro e w15 ⟨S4, ba, bc, bd, bc', kt, rfl, hro, hrl, hks, hgo⟩
              have HRO4 := Lib.hid hro; have HRL4 := Lib.hid hrl; have HKS15 := Lib.hid (HKS14.out.trans hks); have HGO4 := Lib.hid hgo
              have HD4 := Lib.hid (HD3.out.ext hgo.ext HRL3.out.cd.sto.wf hgo.wf)
              clear hro hrl hks hgo HMK HKS14
              go_upto_region 26 with (fail)
              obtain ⟨w16, hw16⟩ : ∃ w16, w16 = w15.alloc (.cells #[.slice ba 2 bc, .slice bd 2 bc', .int .i64 (kt : Int)] 48) := ⟨_, rfl⟩
              obtain ⟨gt, hgt⟩ : ∃ gt, gt = w15.heap.size := ⟨_, rfl⟩
              have hb16 : Below w15.heap.size w15 w16 := by rw [hw16]; exact (Below.refl _ _).alloc (Nat.le_refl _) _
              have hx16 : Blk w16 gt 48 #[.slice ba 2 bc, .slice bd 2 bc', .int .i64 (kt : Int)] := by rw [hw16, hgt]; exact Blk.new_ _ _ _
              rw [← hw16, ← hgt]
              have HX16 := Lib.hid hx16; have HRL16 := Lib.hid (HRL4.out.below hb16); have HRO16 := Lib.hid (HRO4.out.below hb16); have HKS16 := Lib.hid (HKS15.out.trans (Ks.below (T := TX') hb16 HRL4.out.cd.low))
              have HRR16 : Hid (RelOk w16 S4 ⟨aa, ac, ad, ac', 2, [sX, sY], [0, 1], k⟩) := Lib.hid (HRO12.out.re HKS16.out.kb rfl rfl HD4.out (dep_ab _))
              have HXR16 := Lib.hid (HKS16.out.kb _ _ _ HX12.out rfl)
              clear hw16 hgt hb16 hx16 HRO4 HRL4 HKS15
              have HJN := Lib.hid (join_ok w16 B p q qn cb xb S4 HRL16.out aa ad ba bd ac ac' bc bc' k kt HRR16.out HRO16.out (by have := HCT3.out; have := HBU3.out; have := HI33.out; have h1 := HGO4.out.cnt; have h2 := HGO4.out.ext.budget; omega))
              have r0 := HXR16.out.cell 0
              have r1 := HXR16.out.cell 1
              have r2 := HXR16.out.cell 2
              have rl := HXR16.out.lt
              have t0 := HX16.out.cell 0
              have t1 := HX16.out.cell 1
              have t2 := HX16.out.cell 2
              have tl := HX16.out.lt
              go_wp2_with fail
              refine HJN.out.mono ?_
              rintro e w17 ⟨S5, o, rfl, ho1, ho2, hro, hrl, hks, hgo⟩
              obtain ⟨ua, uc, ud, uc', n5, nms5, ds5, ku⟩ := o
              simp only at ho1 ho2
              subst ho1 ho2
              have hn5 : n5 = 3 := (hro.an).symm
              subst hn5
              have HRO5 := Lib.hid hro; have HRL5 := Lib.hid hrl; have HKS17 := Lib.hid (HKS16.out.trans hks); have HGO5 := Lib.hid hgo
              have HD5 := Lib.hid (HD4.out.ext hgo.ext HRL16.out.cd.sto.wf hgo.wf)
              clear hro hrl hks hgo HJN r0 r1 r2 rl t0 t1 t2 tl HXR16 HX16 HRR16 HRO16 HKS16
              go_upto_region 27 with (fail)
              obtain ⟨w18, hw18⟩ : ∃ w18, w18 = w17.alloc (.cells #[.slice ua 3 uc, .slice ud 3 uc', .int .i64 (ku : Int)] 48) := ⟨_, rfl⟩
              obtain ⟨gu, hgu⟩ : ∃ gu, gu = w17.heap.size := ⟨_, rfl⟩
              have hb18 : Below w17.heap.size w17 w18 := by rw [hw18]; exact (Below.refl _ _).alloc (Nat.le_refl _) _
              have hx18 : Blk w18 gu 48 #[.slice ua 3 uc, .slice ud 3 uc', .int .i64 (ku : Int)] := by rw [hw18, hgu]; exact Blk.new_ _ _ _
              rw [← hw18, ← hgu]
              have HX18 := Lib.hid hx18
              obtain ⟨w19, hw19⟩ : ∃ w19, w19 = w18.alloc (.cells #[.string sZ, .string sX] 9) := ⟨_, rfl⟩
              have hb19 : Below w18.heap.size w18 w19 := by rw [hw19]; exact (Below.refl _ _).alloc (Nat.le_refl _) _
              have hs19 : Blk w19 w18.heap.size 9 #[.string sZ, .string sX] := by rw [hw19]; exact Blk.new_ _ _ _
              have hb179 : Below w17.heap.size w17 w19 := hb18.trans (hb19.mono hb18.size)
              have HW19 := Lib.hid hw19
              have HRL19 := Lib.hid (HRL5.out.below hb179); have HKS19 := Lib.hid (HKS17.out.trans (Ks.below (T := TX') hb179 HRL5.out.cd.low))
              have HKP := Lib.hid (keep_ok w19 B p q qn cb xb S5 HRL19.out ua ud uc uc' ku (HRO5.out.below hb179) (some ⟨w18.heap.size, 0, none⟩) 2 (cells_blk2 hs19) (tb_some ⟨_, hs19⟩) (by have := HCT3.out; have := HBU3.out; have := HI33.out; have h1 := HGO4.out.cnt; have h2 := HGO4.out.ext.budget; have h3 := HGO5.out.cnt; have h4 := HGO5.out.ext.budget; omega))
              have u0 := HX18.out.cell 0
              have u1 := HX18.out.cell 1
              have u2 := HX18.out.cell 2
              have ul := HX18.out.lt
              clear hw18 hgu hb18 hx18 hw19 hb19 hs19 hb179 HRO5 HRL5 HKS17
              go_wp2_with fail
              rw [← HW19.out]
              refine HKP.out.mono ?_
              rintro e w20 ⟨S6, ka, kc, kd, kdc, kk, gg, rfl, hrl, hks, hgo⟩
              have HRL6' := Lib.hid hrl; have HKS20 := Lib.hid (HKS19.out.trans hks); have HGO6 := Lib.hid hgo
              have HD6 := Lib.hid (HD5.out.ext hgo.ext HRL19.out.cd.sto.wf hgo.wf)
              have HPN6 : Hid (0 < (nd S6.l k).pins) := Lib.hid (by
                rw [hgo.ext.nds k HD5.out.is, HGO5.out.ext.nds k HD4.out.is, HGO4.out.ext.nds k HD3.out.is]; exact HPN3.out)
              clear hrl hks hgo HKP u0 u1 u2 ul HX18 HKS19 HW19
              go_upto_region 28 with (fail)
              obtain ⟨w21, hw21⟩ : ∃ w21, w21 = w20.alloc (.cells #[.slice ka 2 kc, .slice kd 2 kdc, .int .i64 (kk : Int)] 48) := ⟨_, rfl⟩
              obtain ⟨gw, hgw⟩ : ∃ gw, gw = w20.heap.size := ⟨_, rfl⟩
              have hb21 : Below w20.heap.size w20 w21 := by rw [hw21]; exact (Below.refl _ _).alloc (Nat.le_refl _) _
              have hx21 : Blk w21 gw 48 #[.slice ka 2 kc, .slice kd 2 kdc, .int .i64 (kk : Int)] := by rw [hw21, hgw]; exact Blk.new_ _ _ _
              rw [← hw21, ← hgw]
              have HRL21 := Lib.hid (HRL6'.out.below hb21); have HKS21 := Lib.hid (HKS20.out.trans (Ks.below (T := TX') hb21 HRL6'.out.cd.low))
              have c0 : w21.cell? ⟨gw, 0, none⟩ = some (.slice ka 2 kc) := hx21.cell 0
              have cl := hx21.lt
              have HSWS : Hid (S6.sweeps = i3) := Lib.hid (by rw [HGO6.out.sw, HGO5.out.sw, HGO4.out.sw]; exact HSW3.out)
              have HSP := Lib.hid (sweep9_ok w21 B p q qn cb xb S6 HRL21.out (by rw [HSWS.out]; have := HI33.out; omega))
              clear hw21 hgw hb21 hx21 HRL6' HKS20
              go_wp2_with fail
              refine HSP.out.mono ?_
              rintro e w22 ⟨nn, rfl, S7, hrl, hkp, hbu, hsw7, hct, hdp⟩
              obtain ⟨hd7, hp7⟩ := hdp k _ HD6.out HPN6.out
              have HH := Lib.hid (And.intro hrl (And.intro hd7 (And.intro hp7 (And.intro hbu (And.intro hsw7 (And.intro hct hkp))))))
              clear hrl hkp hbu hsw7 hct hdp hd7 hp7 c0 cl HSP
              go_wp2_with fail
              go_roundg (K - (i3 + 1))
              case measure => have := HM3.out; have := HI3.out; omega
              case rel =>
                obtain ⟨hrl, hd7, hp7, hbu, hsw7, hct, hkp⟩ := HH.out
                refine ⟨i3 + 1, S7, by have := HM3.out; have := HI3.out; omega, by go_num, hrl, hd7, hp7, ?_, ?_, ?_, HKS21.out.trans ((hkp.mono to_tn (Nat.le_refl _)).kx HRL21.out.cd.low)⟩
                · rw [hbu, HGO6.out.ext.budget, HGO5.out.ext.budget, HGO4.out.ext.budget]; exact HBU3.out
                · have h1 := HGO4.out.cnt; have h2 := HGO5.out.cnt; have h3 := HGO6.out.cnt; have h4 := HCT3.out; omega
                · rw [hsw7, HSWS.out]
            · have hiK : i3 = K := by have := HM3.out; omega
              have HIK := Lib.hid hiK
              obtain ⟨w13, rfl⟩ : ∃ w13, w13 = wr := ⟨_, rfl⟩
              go_wp2_with fail
              obtain ⟨w14, hw14⟩ : ∃ w14, w14 = (w13.alloc (.cells #[.string sX, .string sY] 9)).alloc (.cells #[.int .i64 0, .int .i64 1] 3) := ⟨_, rfl⟩
              have hb14 : Below w13.heap.size w13 w14 := by rw [hw14]; exact ((Below.refl _ _).alloc (Nat.le_refl _) _).alloc (by simp) _
              have hs14 : Blk w14 w13.heap.size 9 #[.string sX, .string sY] := by rw [hw14]; exact (Blk.new_ _ _ _).alloc_ _
              have hd14 : Blk w14 (w13.heap.size + 1) 3 #[.int .i64 0, .int .i64 1] := by
                rw [hw14]
                have := Blk.new_ (w13.alloc (.cells #[.string sX, .string sY] 9)) 3 #[.int .i64 0, .int .i64 1]
                simpa using this
              rw [← hw14]
              have HKS14 : Hid (Ks TX' B w12 w14) := Lib.hid (HKS3.out.trans (Ks.below hb14 HRL3.out.cd.low))
              have HMK := Lib.hid (make9 w14 B p q qn cb xb S3 (HRL3.out.below hb14) (some ⟨w13.heap.size, 0, none⟩) 2 sX sY nm_xy9 (cells_blk2 hs14) (some ⟨w13.heap.size + 1, 0, none⟩) 2 0 1 (by decide) (by decide) (by decide) ⟨cells_blk2 hd14, tb_some ⟨_, hd14⟩⟩ ta tca la (fun h => (HTA12.out h).kb HKS14.out.kb rfl rfl) (by have := HCT3.out; have := HBU3.out; have := HIK.out; omega))
              clear hw14 hb14 hs14 hd14
              refine HMK.out.mono ?_
              rintro e w15 ⟨S4, ba, bc, bd, bc', kt, rfl, hro, hrl, hks, hgo⟩
              have HRL4 := Lib.hid hrl; have HKS15 := Lib.hid (HKS14.out.trans hks)
              have hd4 : Den S4 k (rowsG [0, 1] (rowsN la)) := HD3.out.ext hgo.ext HRL3.out.cd.sto.wf hgo.wf
              have hkt : kt = k := one_node hgo.wf hgo.den.is hd4.is fun ρ => by rw [hgo.den.says, hd4.says]
              have HD4 := Lib.hid hd4
              have HROOM : Hid (NP.cnt S4.l + 134 ≤ S4.budget) := Lib.hid (by have := HCT3.out; have := HBU3.out; have := HIK.out; have h1 := hgo.cnt; have h2 := hgo.ext.budget; omega)
              clear hro hrl hks hgo HMK HKS14 hd4
              subst hkt
              go_upto_region 32 with (fail)
              obtain ⟨w16, hw16⟩ : ∃ w16, w16 = w15.alloc (.cells #[.slice ba 2 bc, .slice bd 2 bc', .int .i64 (kt : Int)] 48) := ⟨_, rfl⟩
              obtain ⟨gt, hgt⟩ : ∃ gt, gt = w15.heap.size := ⟨_, rfl⟩
              have hb16 : Below w15.heap.size w15 w16 := by rw [hw16]; exact (Below.refl _ _).alloc (Nat.le_refl _) _
              have hx16 : Blk w16 gt 48 #[.slice ba 2 bc, .slice bd 2 bc', .int .i64 (kt : Int)] := by rw [hw16, hgt]; exact Blk.new_ _ _ _
              rw [← hw16, ← hgt]
              have HX16 := Lib.hid hx16; have HRL16 := Lib.hid (HRL4.out.below hb16); have HKS16 := Lib.hid (HKS15.out.trans (Ks.below (T := TX') hb16 HRL4.out.cd.low))
              have HRR16 : Hid (RelOk w16 S4 ⟨aa, ac, ad, ac', 2, [sX, sY], [0, 1], kt⟩) := Lib.hid (HRO12.out.re HKS16.out.kb rfl rfl HD4.out (dep_ab _))
              have HXR16 := Lib.hid (HKS16.out.kb _ _ _ HX12.out rfl)
              clear hw16 hgt hb16 hx16 HRL4 HKS15
              have HTP := Lib.hid (rtup_ok w16 B p q qn cb xb S4 HRL16.out aa ad ac ac' kt HRR16.out HROOM.out)
              have r0 := HXR16.out.cell 0
              have r1 := HXR16.out.cell 1
              have r2 := HXR16.out.cell 2
              have rl := HXR16.out.lt
              go_wp2_with fail
              refine HTP.out.mono ?_
              rintro e w17 ⟨hks, ya, yc, N9, sls, R, rfl, hRN, hya, hr2, hp, hs⟩
              have hR : R = (rowsN la).map zN := by rw [rowsN_zN]; exact got_rows HD4.out.says hp hs
              have hN9 : N9 = (rowsN la).length := by rw [← hRN, hR, List.length_map]
              subst hN9
              have HSR : Hid (Calls Tryz.prog 16 #[.slice ya (rowsN la).length yc, .slice ta (rowsN la).length tca] w17 (Tells true w17)) := Lib.hid (by
                have h1 : RowsAt w17 ya ((rowsN la).map zN) := by rw [← hR]; exact Rows2T.at_ hya hr2
                have h2 : RowsAt w17 ta ((rowsN la).map zN) := rowsAt_of fun h => ((HTA12.out (by rwa [List.length_map] at h)).kb HKS16.out.kb rfl rfl).kb hks.kb rfl rfl
                have h3 := sameRows_ok w17 ya ta yc tca _ _ (by rw [List.length_map]; have := rowsN_16 la; unfold maxLen; omega) h1 h2
                rw [List.length_map, beq_self_eq_true] at h3
                exact h3)
              have HX17 := Lib.hid (hks.kb _ _ _ HX16.out rfl); have HXR17 := Lib.hid (hks.kb _ _ _ HXR16.out rfl)
              have HBE : Hid (Below B w w17) := Lib.hid ((HBB12.out.trans HKS16.out.low).trans hks.low)
              clear hks hRN hya hr2 hp hs hR r0 r1 r2 rl HTP
              have x2 := HX17.out.cell 2
              have xl := HX17.out.lt
              have r2 := HXR17.out.cell 2
              have rl := HXR17.out.lt
              go_wp2_with fail
              refine HSR.out.mono ?_
              rintro e w18 ⟨rfl, nq, rfl⟩
              go_wp2_with fail
              go_ret
              exact ⟨rfl, by have := HBE.out; rw [← HB.out] at this; exact this.trans ((bdN' w17 nq).mono this.size)⟩
end Go.Proofs.YtobhjkfkdkiigaaGreatDoor

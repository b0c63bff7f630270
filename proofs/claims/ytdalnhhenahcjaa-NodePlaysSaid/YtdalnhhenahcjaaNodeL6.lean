/- NodePlays: the walk; and the opener of its script. -/
import Derived.Test.YtdalnhhenahcjaaNodeRL
import Derived.Test.YtdalnhhenahcjaaNodeZ
import Derived.Test.YtdalnhhenahcjaaOpen
import Derived.Lib.SmallJoins
namespace Go.Proofs.Ytdalnhhenahcjaa
open Go.RowKit HP NP
/-- a call: its kind, three numbers, values -/
abbrev OpV := Int × Int × Int × Int × Option Addr × List Bool × Nat
def opCells (y : OpV) : List Value := [.int .i64 y.1, .int .i64 y.2.1, .int .i64 y.2.2.1, .int .i64 y.2.2.2.1, .slice y.2.2.2.2.1 y.2.2.2.2.2.1.length y.2.2.2.2.2.2]
section
open Go.ChangeShapes Go.WideShapes Go.ChangeAt Go.Deep
variable {H : Type} {enc : TypeId × Value → H} {P : Program} {w : World} {base : Nat} {held : Bool}
theorem trod_struct5 {spare : TypeId → Bool} {t : TypeId} {f0 f1 f2 f3 f4 : Field} {fuel : Nat} {cs : List Value} {x : DataW H × List MemPlace} (ht : P.underlying t = some (.struct #[f0, f1, f2, f3, f4])) (h : DataW.trod enc P w base spare held fuel t cs = some x) :
    ∃ y0 y1 y2 y3 y4 n, cs.length = P.cellsOf t ∧ DataW.trod enc P w base spare held n f0.type ((cs.drop f0.offset).take (P.cellsOf f0.type)) = some y0 ∧
      DataW.trod enc P w base spare held n f1.type ((cs.drop f1.offset).take (P.cellsOf f1.type)) = some y1 ∧ DataW.trod enc P w base spare held n f2.type ((cs.drop f2.offset).take (P.cellsOf f2.type)) = some y2 ∧
      DataW.trod enc P w base spare held n f3.type ((cs.drop f3.offset).take (P.cellsOf f3.type)) = some y3 ∧ DataW.trod enc P w base spare held n f4.type ((cs.drop f4.offset).take (P.cellsOf f4.type)) = some y4 := by
  obtain ⟨xs, n, _, rfl, hl, hlen, hf⟩ := DataW.trod_struct ht h
  match xs, hlen with
  | [y0, y1, y2, y3, y4], _ => exact ⟨y0, y1, y2, y3, y4, n, hl, by simpa using hf 0 f0 rfl, by simpa using hf 1 f1 rfl, by simpa using hf 2 f2 rfl, by simpa using hf 3 f3 rfl, by simpa using hf 4 f4 rfl⟩
theorem list5n (cs : List Value) (h : cs.length = 5) : ∃ a b c d e, cs = [a, b, c, d, e] := by
  match cs, h with
  | [a, b, c, d, e], _ => exact ⟨a, b, c, d, e, rfl⟩
theorem field_bools {t e : TypeId} {m : Nat} {v : Value} {x : DataW H × List MemPlace} (ht : P.underlying t = some (.slice e)) (he : P.underlying e = some .bool) (hc : P.cellsOf e = 1)
    (hf : DataW.trod enc P w base (fun _ => true) held m t [v] = some x) : ∃ a cap l, v = .slice a (List.length l) cap ∧ l.length ≤ maxLen ∧ Cells w a (l.map Value.bool) := by
  rcases open_bools ht he hc hf with ⟨hcs, _⟩ | ⟨x, l, c, B, hcs, _, hl, hm, _, hcell⟩
  · injection hcs with hcs
    subst hcs
    exact ⟨none, 0, [], rfl, by simp, Cells.nil _ _⟩
  · injection hcs with hcs
    subst hcs
    refine ⟨some x, c, (List.range l).map B, by simp, by simp; omega, cells_of_all fun i v hv => ?_⟩
    simp only [List.map_map, List.getElem?_map] at hv
    have hi : i < l := by
      rcases Nat.lt_or_ge i l with h | h
      · exact h
      · rw [List.getElem?_eq_none (by simpa using h)] at hv; simp at hv
    simp [List.getElem?_range hi] at hv
    rw [hcell i (by omega), ← hv]
theorem read_op : ∀ n cs x, DataW.trod enc Try.prog w base (fun _ => true) held n 81 cs = some x → ∃ y : OpV, cs = opCells y ∧ (y.2.2.2.2.2.1.length ≤ maxLen ∧ Cells w y.2.2.2.2.1 (y.2.2.2.2.2.1.map Value.bool)) := fun n cs x h => by
  obtain ⟨y0, y1, y2, y3, y4, m, hl, h0, h1, h2, h3, h4⟩ := trod_struct5 Try.underlying81 h
  have hc : Try.prog.cellsOf 81 = 5 := by kernel_rfl
  have hi : Try.prog.cellsOf 3 = 1 := by kernel_rfl
  have hs : Try.prog.cellsOf 60 = 1 := by kernel_rfl
  rw [hc] at hl
  obtain ⟨a, b, c, d, e, rfl⟩ := list5n cs hl
  simp only [hi, hs] at h0 h1 h2 h3 h4
  obtain ⟨z0, e0, _, _⟩ := DataW.trod_int Try.underlying3 h0
  obtain ⟨z1, e1, _, _⟩ := DataW.trod_int Try.underlying3 h1
  obtain ⟨z2, e2, _, _⟩ := DataW.trod_int Try.underlying3 h2
  obtain ⟨z3, e3, _, _⟩ := DataW.trod_int Try.underlying3 h3
  simp at e0 e1 e2 e3
  obtain ⟨va, vc, l, e4, hlm, hcs⟩ := field_bools (v := e) Try.underlying60 Try.underlying4 (by kernel_rfl) (by simpa using h4)
  exact ⟨(z0, z1, z2, z3, va, l, vc), by rw [e0, e1, e2, e3, e4]; rfl, hlm, hcs⟩
end
theorem op_at {w : World} {a : Option Addr} {l : List OpV} (h : Cells w a (l.flatMap opCells)) {i : Nat} {o : OpV} (hi : l[i]? = some o) :
    ∃ b off, a = some ⟨b, off, none⟩ ∧ b < w.heap.size ∧ w.cell? ⟨b, off + i * 5, none⟩ = some (.int .i64 o.1) ∧ w.cell? ⟨b, off + i * 5 + 1, none⟩ = some (.int .i64 o.2.1) ∧ w.cell? ⟨b, off + i * 5 + 2, none⟩ = some (.int .i64 o.2.2.1) ∧ w.cell? ⟨b, off + i * 5 + 3, none⟩ = some (.int .i64 o.2.2.2.1) ∧ w.cell? ⟨b, off + i * 5 + 4, none⟩ = some (.slice o.2.2.2.2.1 o.2.2.2.2.2.1.length o.2.2.2.2.2.2) := by
  have g := fun j v => flat_get opCells 5 (fun _ => rfl) l i j o v hi
  have h0 := g 0 _ rfl
  have h1 := g 1 _ rfl
  have h2 := g 2 _ rfl
  have h3 := g 3 _ rfl
  have h4 := g 4 _ rfl
  obtain ⟨b, off, e, hb, hh⟩ := h (by rintro e; rw [e] at h0; simp at h0)
  exact ⟨b, off, e, hb, by simpa using hh _ _ h0, by simpa [Nat.add_assoc] using hh _ _ h1, by simpa [Nat.add_assoc] using hh _ _ h2, by simpa [Nat.add_assoc] using hh _ _ h3, by simpa [Nat.add_assoc] using hh _ _ h4⟩
theorem Blk.st5g {w : World} {z : Nat} {S : NS} {ra : Option Addr} {rc : Nat} {a0 a1 a2 a3 a4 : Value} (h : Blk w z 75 #[a0, a1, a2, a3, a4]) : Blk (st5 w z S ra rc) z 75 (rbox S ra rc) :=
  ((((h.set_ 0 _).set_ 1 _).set_ 2 _).set_ 3 _).set_ 4 _
/-- behind a call: S5 on both sides, the box t as it was (S) -/
structure PlayAt (w wc : World) (p v t : Nat) (S : NS) (qa : Option Addr) (qc : Nat) (S5 : NS) (ra5 : Option Addr) (rc5 : Nat) : Prop where
  sto : Sto wc w.heap.size p S5
  rst : RSt wc S5 ra5 rc5
  vars : S5.vars = v
  bel : Below w.heap.size w wc
  box : Blk wc t 75 (rbox S qa qc)
section
variable {w wc : World} {p v t : Nat} {S : NS} {qa : Option Addr} {qc : Nat} {S5 : NS} {ra5 : Option Addr} {rc5 : Nat}
theorem PlayAt.below {w' : World} (h : PlayAt w wc p v t S qa qc S5 ra5 rc5) (hb : Below wc.heap.size wc w') : PlayAt w w' p v t S qa qc S5 ra5 rc5 :=
  ⟨h.sto.below hb, h.rst.below hb, h.vars, h.bel.trans (hb.mono h.bel.size), h.box.below hb h.box.lt⟩
theorem PlayAt.alloc_ (h : PlayAt w wc p v t S qa qc S5 ra5 rc5) (o : Obj) : PlayAt w (wc.alloc o) p v t S qa qc S5 ra5 rc5 := h.below ((Below.refl _ _).alloc (Nat.le_refl _) _)
theorem PlayAt.st5_ {z : Nat} {cs : Array Value} {S6 : NS} {ra6 : Option Addr} {rc6 : Nat} (h : PlayAt w wc p v t S qa qc S5 ra5 rc5) (hz : Blk wc z 75 cs) (htz : t < z) (hwz : w.heap.size ≤ z) : PlayAt w (st5 wc z S6 ra6 rc6) p v t S qa qc S5 ra5 rc5 :=
  ⟨h.sto.st5 hz, h.rst.st5 hz, h.vars, below5 h.bel hwz, h.box.st5_far (by omega)⟩
theorem PlayAt.next (h : PlayAt w wc p v t S qa qc S5 ra5 rc5) (hwt : w.heap.size ≤ t) : PlayAt w (st5 wc t S5 ra5 rc5) p v t S5 ra5 rc5 S5 ra5 rc5 :=
  ⟨h.sto.st5 h.box, h.rst.st5 h.box, h.vars, below5 h.bel hwt, Blk.st5_ h.box⟩
end
set_option maxRecDepth 100000 in
set_option maxHeartbeats 12800000 in
theorem nodePlays_walk (w : World) (vars : Int) (_wv : (Lit.int .i64 vars).wf = true) (budget : Int) (_wb : (Lit.int .i64 budget).wf = true) (xa : Option Addr) (xc : Nat) (l : List OpV) (_hlc : l.length ≤ xc) (_hm : xc ≤ maxLen) (hc : Cells w xa (l.flatMap opCells)) (hwf : ∀ y ∈ l, y.2.2.2.2.2.1.length ≤ maxLen ∧ Cells w y.2.2.2.2.1 (y.2.2.2.2.2.1.map Value.bool)) :
    Calls Try.prog 13 #[.int .i64 vars, .int .i64 budget, .slice xa l.length xc] w (Fine w) := by
  have hml : l.length ≤ 9223372036854775807 := by unfold maxLen at _hm; omega
  have HC := Lib.hid hc; have HWF := Lib.hid hwf
  obtain ⟨N, hN⟩ : ∃ N, N = l.length := ⟨_, rfl⟩
  have HN := Lib.hid hN
  rw [← hN] at hml
  rw [← hN]
  have HNN := Lib.hid (nnew_ok w w.heap.size (Nat.le_refl _) vars budget)
  clear hc hwf hN
  cases hok : okNew vars budget with
  | false =>
    have HOK := Lib.hid hok
    clear hok
    go_enter Try.func13, Try.ntmps13
    go_wp2_with fail
    refine HNN.out.mono ?_
    rintro e w1 (⟨h, _⟩ | ⟨_, rfl, rfl⟩)
    · rw [HOK.out] at h; cases h
    go_wp2_with fail
    refine (rnew_ok w vars budget).mono ?_
    rintro e w2 ⟨⟨h, _⟩ | ⟨_, rfl⟩, hb2⟩
    · rw [HOK.out] at h; cases h
    have HB2 := Lib.hid hb2
    clear hb2
    go_wp2_with fail
    refine (awake03 _).mono ?_
    rintro e w3 ⟨rfl, hb3⟩
    go_wp2_with fail
    go_ret
    exact ⟨rfl, (HB2.out.alloc HB2.out.size _).trans (hb3.mono (by have := HB2.out.size; simp; omega))⟩
  | true =>
    have hok' := hok
    unfold okNew at hok'
    simp only [Bool.and_eq_true, decide_eq_true_eq] at hok'
    obtain ⟨v, rfl⟩ : ∃ v : Nat, vars = (v : Int) := ⟨vars.toNat, by omega⟩
    obtain ⟨bu, rfl⟩ : ∃ b : Nat, budget = (b : Int) := ⟨budget.toNat, by omega⟩
    have h1 : v ≤ 256 := by omega
    have h2 : 2 ≤ bu := by omega
    have h3 : bu ≤ 1048576 := by omega
    have HNY := Lib.hid (nnew_yes w w.heap.size (Nat.le_refl _) v bu h1 h2 h3)
    have HRN := Lib.hid (fun w' => rnew_yes w' v bu h1 h2 h3)
    clear hok hok' HNN h1 h2 h3
    go_enter Try.func13, Try.ntmps13
    go_wp2_with fail
    refine HNY.out.mono ?_
    rintro e w1 ⟨p, rfl, hs1, hb1, _⟩
    have HS1 := Lib.hid hs1; have HB1 := Lib.hid hb1
    clear hs1 hb1 HNY
    go_wp2_with fail
    refine (HRN.out w1).mono ?_
    rintro e w2 ⟨⟨ra, rc, rfl, hr2⟩, hb2⟩
    have HS2 := Lib.hid (HS1.out.below hb2); have HB2 := Lib.hid (HB1.out.trans (hb2.mono HB1.out.size)); have HR2 := Lib.hid hr2
    clear hr2 hb2
    go_wp2_with fail
    go_loopg [11] N (fun m x wr => ∃ (k : Nat) (S : NS) (ra : Option Addr) (rc : Nat), m + k = N ∧ x = .int .i64 (k : Int) ∧ Sto wr w.heap.size p S ∧ RSt wr S ra rc ∧ S.vars = v ∧ Below w.heap.size w wr ∧ Blk wr w2.heap.size 75 (rbox S ra rc))
    case atStart =>
      have hb : Below w2.heap.size w2 (w2.alloc (.cells (rbox (newS v bu) ra rc) 75)) := (Below.refl _ _).alloc (Nat.le_refl _) _
      exact ⟨0, newS v bu, ra, rc, rfl, rfl, HS2.out.below hb, HR2.out.below hb, rfl, HB2.out.trans (hb.mono HB2.out.size), rbox_new _ _ _ _⟩
    case round =>
      obtain ⟨k, S, qa, qc, hm, rfl, hs, hr, hv, hb, hbx⟩ := hrel
      have HM := Lib.hid hm; have HS := Lib.hid hs; have HR := Lib.hid hr; have HV := Lib.hid hv; have HB := Lib.hid hb; have HBX := Lib.hid hbx
      obtain ⟨b0, b1, b2, b3, b4, bl⟩ := blk5 hbx
      have hB : w.heap.size ≤ wr.heap.size := hb.size
      clear hm hs hr hv hb hbx
      by_cases hk : k < N
      · by_cases hk2 : k < 200
        · have dk2 : decide ((k : Int) < 200) = true := decide_eq_true (by omega)
          obtain ⟨o, ho⟩ : ∃ o, l[k]? = some o := ⟨_, List.getElem?_eq_getElem (by rw [← HN.out]; exact hk)⟩
          have how := HWF.out o (List.mem_of_getElem? ho)
          obtain ⟨b, off, hxa, hbl, o0, o1, o2, o3, o4⟩ := op_at (HC.out.below HB.out) ho
          subst hxa
          obtain ⟨ok, oa, ob, oc, va, vals, vc⟩ := o
          have hdr : Below wr.heap.size wr wr.drew := (Below.refl _ _).drew
          have HDO : Hid (∀ W, Below wr.heap.size wr W → Calls Try.prog 41 #[.pointer (some ⟨p, 0, none⟩), rsV S qa qc, .agg (opA ok oa ob oc va vals.length vc)] W fun e w5 =>
              ∃ S5 ra5 rc5, e = .returned (.tuple #[rsV S5 ra5 rc5, .bool true]) ∧ PlayAt w w5 p v w2.heap.size S qa qc S5 ra5 rc5 ∧ Kp TN w.heap.size W w5) := Lib.hid (fun W hW => (does_ok W w.heap.size p S (Nat.le_trans hB hW.size) (HS.out.below hW) qa qc (HR.out.below hW) ok oa ob oc va vals vc how.1 (fun W' hW' => how.2.below (HB.out.trans ((hW.mono hB).trans hW')))).mono fun e w5 ⟨S5, ra5, rc5, he, hs5, hr5, hv5, hk5⟩ => ⟨S5, ra5, rc5, he, ⟨hs5, hr5, hv5.trans HV.out, (HB.out.trans (hW.mono hB)).trans (hk5.low (Nat.le_trans hB hW.size)), hk5.blk (HBX.out.below hW HBX.out.lt) rfl⟩, hk5⟩)
          clear how ho
          go_upto_region 10 with (fail)
          go_cut [12, 13] (fun y x wc => ∃ (z : Nat) (S5 : NS) (ra5 : Option Addr) (rc5 : Nat), y = .pointer (some ⟨z, 0, none⟩) ∧ x = .bool true ∧ PlayAt w wc p v w2.heap.size S qa qc S5 ra5 rc5 ∧ Blk wc z 75 (rbox S5 ra5 rc5))
          case first =>
            go_region_with (go_at_call 41; (with_reducible refine (HDO.out _ (by first | exact (Below.refl _ _).drew | exact ((Below.refl _ _).alloc (Nat.le_refl _) _).drew)).mono ?_); rintro e w5 ⟨S5, ra5, rc5, rfl, hp5, hk5⟩; have HP5 := Lib.hid hp5; have HK5 := Lib.hid hk5; first | (have HZ5 := Lib.hid (hk5.blk (show Blk (wr.alloc (.cells rzero 75)).drew wr.heap.size 75 rzero from (Blk.new_ _ _ _).drew_) rfl); clear hp5 hk5; obtain ⟨z0, z1, z2, z3, z4, zl⟩ := blk5 HZ5.out; obtain ⟨zf0, zf1, zf2, zf3, zf4⟩ := blk5f HZ5.out) | (clear hp5 hk5))
            all_goals
              go_wp2_with fail
              go_meet
              case rel =>
                first | with_reducible exact ⟨_, S5, ra5, rc5, rfl, rfl, HP5.out.st5_ HZ5.out bl hB, Blk.st5g HZ5.out⟩ | with_reducible exact ⟨_, S5, ra5, rc5, rfl, rfl, HP5.out.alloc_ _, Blk.new_ _ _ _⟩
          case rest =>
            obtain ⟨z, S5, ra5, rc5, rfl, rfl, hp5, hz5⟩ := hcut
            have HP5 := Lib.hid hp5; have HZ5 := Lib.hid hz5
            clear b0 b1 b2 b3 b4 bl o0 o1 o2 o3 o4 hbl HDO
            obtain ⟨b0, b1, b2, b3, b4, bl⟩ := blk5 hp5.box
            obtain ⟨bf0, bf1, bf2, bf3, bf4⟩ := blk5f hp5.box
            obtain ⟨z0, z1, z2, z3, z4, zl⟩ := blk5 hz5
            clear hp5 hz5
            obtain ⟨wx, hwx⟩ : ∃ wx, wx = st5 wc w2.heap.size S5 ra5 rc5 := ⟨_, rfl⟩
            have HX : Hid (PlayAt w wx p v w2.heap.size S5 ra5 rc5 S5 ra5 rc5) := Lib.hid (by rw [hwx]; exact HP5.out.next HB2.out.size)
            have hwx' : ((((wc.setCell ⟨w2.heap.size, 0, none⟩ (.int .i64 (S5.vars : Int))).setCell ⟨w2.heap.size, 1, none⟩ (.int .i64 (S5.budget : Int))).setCell ⟨w2.heap.size, 2, none⟩ (.int .i64 (wr64 S5.made))).setCell ⟨w2.heap.size, 3, none⟩ (.int .i64 (wr64 S5.sweeps))).setCell ⟨w2.heap.size, 4, none⟩ (.slice ra5 S5.l.length rc5) = wx := hwx.symm
            have HWX := Lib.hid hwx'
            clear hwx hwx'
            go_upto_region 14 with (fail)
            rw [HWX.out]
            clear HWX b0 b1 b2 b3 b4 bl bf0 bf1 bf2 bf3 bf4 z0 z1 z2 z3 z4 zl HZ5 HP5
            have hdr : Below wx.heap.size wx wx.drew := (Below.refl _ _).drew
            have HLEN := Lib.hid (nlen_ok wx.drew w.heap.size p S5 (HX.out.sto.below hdr))
            have HRL := Lib.hid (rlen_ok wx.drew S5 (by have := HX.out.sto.wf.lm; exact this) ra5 rc5 (HX.out.rst.below hdr))
            have HKP : Hid (∀ w', Below wx.drew.heap.size wx.drew w' → (w'.cell? ⟨w2.heap.size, 0, none⟩ = some (.int .i64 (S5.vars : Int)) ∧ w'.cell? ⟨w2.heap.size, 1, none⟩ = some (.int .i64 (S5.budget : Int)) ∧ w'.cell? ⟨w2.heap.size, 2, none⟩ = some (.int .i64 (wr64 S5.made)) ∧ w'.cell? ⟨w2.heap.size, 3, none⟩ = some (.int .i64 (wr64 S5.sweeps)) ∧ w'.cell? ⟨w2.heap.size, 4, none⟩ = some (.slice ra5 S5.l.length rc5))) := by
              refine Lib.hid fun w' hb => ?_
              have h1 := HX.out.box.drew_.below hb HX.out.box.lt
              exact ⟨h1.cell 0, h1.cell 1, h1.cell 2, h1.cell 3, h1.cell 4⟩
            have HK0 := Lib.hid (HKP.out _ (Below.refl _ _))
            go_region_held3 (fun w' => w'.cell? ⟨w2.heap.size, 0, none⟩ = some (.int .i64 (S5.vars : Int)) ∧ w'.cell? ⟨w2.heap.size, 1, none⟩ = some (.int .i64 (S5.budget : Int)) ∧ w'.cell? ⟨w2.heap.size, 2, none⟩ = some (.int .i64 (wr64 S5.made)) ∧ w'.cell? ⟨w2.heap.size, 3, none⟩ = some (.int .i64 (wr64 S5.sweeps)) ∧ w'.cell? ⟨w2.heap.size, 4, none⟩ = some (.slice ra5 S5.l.length rc5))
              (first | with_reducible exact HK0.out | with_reducible exact HK7.out)
              (first | (go_at_call 34; (with_reducible refine HLEN.out.mono ?_); rintro e w6 ⟨rfl, rfl⟩) | (go_at_call 42; (with_reducible refine HRL.out.mono ?_); rintro e w7 ⟨rfl, hb7⟩; have HK7 := Lib.hid (HKP.out _ hb7); have HX7 := Lib.hid (HX.out.below (hdr.trans (hb7.mono (Nat.le_refl _)))); have HM7 := Lib.hid (nmade_ok w7 w.heap.size p S5 HX7.out.sto); have HW7 := Lib.hid (nsweeps_ok w7 w.heap.size p S5 HX7.out.sto); have HV7 := Lib.hid (nvars_ok w7 w.heap.size p S5 HX7.out.sto); rw [HX7.out.vars] at HV7; clear hb7) | (go_at_call 36; (with_reducible refine HM7.out.mono ?_); rintro e w6 ⟨rfl, rfl⟩) | (go_at_call 37; (with_reducible refine HW7.out.mono ?_); rintro e w6 ⟨rfl, rfl⟩) | (go_at_call 43; (with_reducible refine HV7.out.mono ?_); rintro e w6 ⟨rfl, rfl⟩))
            go_wp2_with fail
            go_roundg (N - (k + 1))
            case measure => have := HM.out; omega
            case rel =>
              exact ⟨k + 1, S5, ra5, rc5, by have := HM.out; omega, by go_num, HX7.out.sto, HX7.out.rst, HX7.out.vars, HX7.out.bel, HX7.out.box⟩
        · have dk2 : decide ((k : Int) < 200) = false := decide_eq_false (by omega)
          clear hk2
          go_wp2_with fail
          refine (awake03 wr).mono ?_
          rintro e w3 ⟨rfl, hb3⟩
          go_wp2_with fail
          go_ret
          exact ⟨rfl, HB.out.trans (hb3.mono hB)⟩
      · have hkN : N ≤ k := by omega
        clear hk
        go_wp2_with fail
        refine (awake03 wr).mono ?_
        rintro e w3 ⟨rfl, hb3⟩
        go_wp2_with fail
        go_ret
        exact ⟨rfl, HB.out.trans (hb3.mono hB)⟩
end Go.Proofs.Ytdalnhhenahcjaa

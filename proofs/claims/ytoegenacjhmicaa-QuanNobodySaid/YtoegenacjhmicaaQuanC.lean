/- Layer 5: the contract of Restrict. -/
import Derived.Test.YtoegenacjhmicaaQuanB
namespace Go.Proofs.Ytoegenacjhmicaa
open Go.RowKit HP NP
def RetE (E : Int) (w : World) (e : Ending) (w' : World) : Prop := e = .returned (.tuple #[.int .i64 0, .int .i64 E]) ∧ Below w.heap.size w w'
theorem WalkPost.op {B p q b L : Nat} {S0 : NS} {T : Nat → (Nat → Bool) → Bool} {C : Nat → Nat} {f k n : Nat} {S : NS} {w0 w w' : World} {e : Ending} (h : WalkPost B p q b L S0 T C f k S w e w') (h0 : Below w0.heap.size w0 w) (hb : w0.heap.size ≤ b) (hn : tot C f ≤ n) : OpPost B p q S (T k) n w0 e w' := by
  obtain ⟨S', m', h1, h2, _, _, h5, h6⟩ := h
  have hk : Kp TO B w0 w' := by
    refine ⟨h5.os.trans h0.os, h5.tape.trans h0.tape, h5.output.trans h0.output, Nat.le_trans h0.size h5.size, fun i hi hn => ?_⟩
    have e0 := h0.block i hi
    refine (h5.block i (Nat.lt_of_lt_of_le hi h0.size) ?_).trans e0
    rintro (⟨a1, cs, t, f, a2, a3⟩ | a)
    · exact hn ⟨a1, cs, t, f, by rw [← e0]; exact a2, a3⟩
    · omega
  refine ⟨S', h1, h2, hk, ?_⟩
  rcases h6 with ⟨k', h7, h8⟩ | ⟨h7, h8⟩
  · exact .inl ⟨k', h7, h8.cong (fun _ => rfl) hn⟩
  · exact .inr ⟨h7, h8.mono hn⟩
theorem mayE_ok {S : NS} {vs ks : List Int} (h1 : vs.length ≤ 256) (h2 : vs.all (vOk S) = true) (h3 : ks.all (isK S.l) = true) : mayE S vs ks = 0 := by unfold mayE; rw [decide_eq_true h1, h2, h3]; rfl
theorem vOk_nat {S : NS} {v : Nat} (h : v < S.vars) : vOk S (v : Int) = true := by unfold vOk; simp; omega
/-- the world behind Restrict's boxes and slices -/
abbrev rsW3 (w : World) (qn : Nat) (v : Int) (b : Bool) : World := ((w.alloc (.cells #[.pointer (some ⟨qn, 0, none⟩)] 23)).alloc (.cells #[.int .i64 v] 3)).alloc (.cells #[.bool b] 4)
abbrev rsW5 (w : World) (qn : Nat) (v k : Int) (b : Bool) : World := ((rsW3 w qn v b).alloc (.cells #[.int .i64 v] 3)).alloc (.cells #[.int .i64 k] 3)
theorem rsW_facts (w : World) (qn : Nat) (v k : Int) (b : Bool) : Below w.heap.size w (rsW5 w qn v k b) ∧ (rsW5 w qn v k b).heap.size = w.heap.size + 1 + 1 + 1 + 1 + 1 ∧ Cells (rsW5 w qn v k b) (some ⟨w.heap.size + 1 + 1 + 1, 0, none⟩) [.int .i64 v] ∧ Cells (rsW5 w qn v k b) (some ⟨w.heap.size + 1 + 1 + 1 + 1, 0, none⟩) [.int .i64 k] ∧
    Blk (rsW5 w qn v k b) w.heap.size 23 #[.pointer (some ⟨qn, 0, none⟩)] ∧ Blk (rsW5 w qn v k b) (w.heap.size + 1) 3 #[.int .i64 v] ∧ Blk (rsW5 w qn v k b) (w.heap.size + 1 + 1) 4 #[.bool b] := by
  have a0 := Blk.new_ w 23 #[.pointer (some ⟨qn, 0, none⟩)]
  have a1 := Blk.new_ (w.alloc (.cells #[.pointer (some ⟨qn, 0, none⟩)] 23)) 3 #[.int .i64 v]
  have a2 := Blk.new_ ((w.alloc (.cells #[.pointer (some ⟨qn, 0, none⟩)] 23)).alloc (.cells #[.int .i64 v] 3)) 4 #[.bool b]
  have e1 : (w.alloc (.cells #[.pointer (some ⟨qn, 0, none⟩)] 23)).heap.size = w.heap.size + 1 := by simp
  have e2 : ((w.alloc (.cells #[.pointer (some ⟨qn, 0, none⟩)] 23)).alloc (.cells #[.int .i64 v] 3)).heap.size = w.heap.size + 1 + 1 := by simp
  have e3 : (rsW3 w qn v b).heap.size = w.heap.size + 1 + 1 + 1 := by simp
  have e4 : ((rsW3 w qn v b).alloc (.cells #[.int .i64 v] 3)).heap.size = w.heap.size + 1 + 1 + 1 + 1 := by simp
  rw [e1] at a1
  rw [e2] at a2
  have c3 := Cells.lit (rsW3 w qn v b) #[.int .i64 v] 3
  have c4 := Cells.lit ((rsW3 w qn v b).alloc (.cells #[.int .i64 v] 3)) #[.int .i64 k] 3
  rw [e3] at c3
  rw [e4] at c4
  refine ⟨?_, by simp, c3.below ((Below.refl _ _).alloc (Nat.le_refl _) _), c4, (((a0.alloc_ _).alloc_ _).alloc_ _).alloc_ _, ((a1.alloc_ _).alloc_ _).alloc_ _, (a2.alloc_ _).alloc_ _⟩
  exact (((((Below.refl _ _).alloc (Nat.le_refl _) _).alloc (by simp) _).alloc (by simp; omega) _).alloc (by simp; omega) _).alloc (by simp; omega) _
theorem app3 (a b c d e f : Value) : (#[a, b, c] ++ #[d, e, f] : Array Value) = #[a, b, c, d, e, f] := rfl
set_option maxRecDepth 100000 in
set_option maxHeartbeats 1600000 in
theorem qrs_no (w : World) (B p q qn : Nat) (S : NS) (hs : Sto w B p S) (hq : QuBlk w qn p q) (k v : Int) (b : Bool) (E : Int) (hE : mayE S [v] [k] = E) (hE0 : E ≠ 0) :
    Calls Try.prog 16 #[.pointer (some ⟨qn, 0, none⟩), .int .i64 k, .int .i64 v, .bool b] w (RetE E w) := by
  obtain ⟨hbl, hsz, cv, ck, b0, b1, b2⟩ := rsW_facts w qn v k b
  have HM := Lib.hid (qmay_ok (rsW5 w qn v k b) B p q qn S (hs.below hbl) (hq.below hbl hq.lt) _ _ [v] [k] 1 1 (by simp) (by simp) cv ck)
  rw [hE] at HM
  have hne : (E != 0) = true := by rw [bne_iff_ne]; exact hE0
  have HBL := Lib.hid hbl
  clear hs hq hbl hsz cv ck b0 b1 b2 hE hE0
  go_enter Try.func16, Try.ntmps16
  go_wp2_with fail
  refine HM.out.mono ?_
  rintro e w1 ⟨rfl, n, hw1⟩
  have hb1 : Below w.heap.size w w1 := by rw [hw1]; exact HBL.out.trans ((bdN' _ _).mono (by simp; omega))
  have HB1 := Lib.hid hb1
  clear hw1 hb1
  go_wp2_with fail
  go_ret2
  exact ⟨rfl, HB1.out⟩
set_option maxRecDepth 100000 in
set_option maxHeartbeats 1600000 in
theorem qrs_ok (w : World) (B p q qn : Nat) (S : NS) (hs : Sto w B p S) (ho : OpsM w B p q S) (hq : QuBlk w qn p q) (hB : B ≤ w.heap.size) (k v : Nat) (b : Bool) (hk : isB S.l k = true) (hv : v < S.vars) (n : Nat) (hn : tot (fun _ => 1) S.vars ≤ n) :
    Calls Try.prog 16 #[.pointer (some ⟨qn, 0, none⟩), .int .i64 (k : Int), .int .i64 (v : Int), .bool b] w (OpPost B p q S (rsT S v b k) n w) := by
  obtain ⟨hbl, hsz, cv, ck, b0, b1, b2⟩ := rsW_facts w qn (v : Int) (k : Int) b
  have hm0 : mayE S [(v : Int)] [(k : Int)] = 0 := mayE_ok (by simp) (by simp [vOk_nat hv]) (by simp [isK_nat, hk])
  obtain ⟨vi, hvi⟩ : ∃ vi : Int, (v : Int) = vi := ⟨_, rfl⟩
  obtain ⟨ki, hki⟩ : ∃ ki : Int, (k : Int) = ki := ⟨_, rfl⟩
  rw [hvi] at hbl hsz cv ck b0 b1 b2 hm0 ⊢
  rw [hki] at hbl hsz cv ck b0 b1 b2 hm0 ⊢
  have HM := Lib.hid (qmay_ok (rsW5 w qn vi ki b) B p q qn S (hs.below hbl) (hq.below hbl hq.lt) _ _ [vi] [ki] 1 1 (by simp) (by simp) cv ck)
  rw [hm0] at HM
  rw [← hvi, ← hki] at HM hbl hsz b0 b1 b2 ⊢
  have HBL := Lib.hid hbl; have HS := Lib.hid hs; have HO := Lib.hid ho; have HQ := Lib.hid hq; have HK := Lib.hid hk; have HV := Lib.hid hv; have HN := Lib.hid hn; have HSZ := Lib.hid hsz
  have HB0 := Lib.hid b0; have HB1 := Lib.hid b1; have HB2 := Lib.hid b2
  have hmk := @run_makeMap Try.prog
  have hmf : ∀ (fn : Fn) (first cap : Array Value) (w : World), (Instr.makeFunc fn first cap).run Try.prog w = .ok (.func fn first cap) w := fun _ _ _ _ => rfl
  clear hs ho hq hbl hsz cv ck b0 b1 b2 hk hv hn hm0 hvi hki
  go_enter Try.func16, Try.ntmps16
  go_wp2_with fail
  refine HM.out.mono ?_
  rintro e w1 ⟨rfl, nd, hw1⟩
  have hb1 : Below w.heap.size w w1 := by rw [hw1]; exact HBL.out.trans ((bdN' _ _).mono (by simp; omega))
  have hb51 : Below (rsW5 w qn v k b).heap.size (rsW5 w qn v k b) w1 := by rw [hw1]; exact bdN' _ _
  have HB := Lib.hid hb1
  have HC0 := Lib.hid (HB0.out.below hb51 HB0.out.lt); have HC1 := Lib.hid (HB1.out.below hb51 HB1.out.lt); have HC2 := Lib.hid (HB2.out.below hb51 HB2.out.lt)
  have d0 : w1.cell? ⟨w.heap.size, 0, none⟩ = some (.pointer (some ⟨qn, 0, none⟩)) := HC0.out.cell 0
  have l0 := HC0.out.lt; have l1 := HC1.out.lt; have l2 := HC2.out.lt
  clear hw1 hb1 hb51
  go_wp2_with fail
  have hal := (Below.refl w1.heap.size w1).alloc (Nat.le_refl _) (.map #[] 0)
  have HI : Hid (RsI p q qn w.heap.size v b (w1.alloc (.map #[] 0))) := Lib.hid ⟨(HQ.out.below HB.out HQ.out.lt).alloc_ _, HC0.out.alloc_ _, HC1.out.alloc_ _, HC2.out.alloc_ _⟩
  have HW := Lib.hid (qwalk_ok B p q qn w1.heap.size 45 (fun _ => 1) #[.pointer (some ⟨w.heap.size + 1, 0, none⟩), .pointer (some ⟨w.heap.size, 0, none⟩), .pointer (some ⟨w.heap.size + 1 + 1, 0, none⟩)] S (rsT S v b) (RsI p q qn w.heap.size v b) HS.out.wf (by have := HB.out.size; omega) (fun w w' hi hm hk => hi.km hm hk) (fun w hi => hi.qu) (fun k hk ρ => rsT_leaf S v b hk ρ) call_rs
    (fun w2 S2 k2 low high f hf hi hs ho hB he h2 hk hl hh => by
      rw [app3]
      exact rs1_ok B p q qn w.heap.size v b S HS.out.wf w2 S2 k2 low high f hf hi hs ho hB he h2 hk hl hh)
    S.vars (w1.alloc (.map #[] 0)) S k (fun _ => none) HI.out ((HS.out.below HB.out).below hal) ((HO.out.below HB.out).below hal) (by have := HB.out.size; simp; omega) (Ext.refl _) (IMap.new w1 _) (fun _ _ h => by cases h) HK.out (by omega))
  refine HW.out.mono ?_
  intro e w3 hr
  have HR := Lib.hid (hr.op (w0 := w) (HB.out.trans (hal.mono HB.out.size)) HB.out.size HN.out)
  obtain ⟨x, y, rfl⟩ := opRet HR.out
  clear hr
  go_wp2_with fail
  go_ret2
  exact HR.out
end Go.Proofs.Ytoegenacjhmicaa

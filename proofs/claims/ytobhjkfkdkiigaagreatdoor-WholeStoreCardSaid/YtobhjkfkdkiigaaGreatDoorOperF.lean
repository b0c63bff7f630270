/- Layer 4: the contracts of Ite, Not, And, Or, Diff, Xor. -/
import Derived.Test.YtobhjkfkdkiigaaGreatDoorOperE
namespace Go.Proofs.YtobhjkfkdkiigaaGreatDoor
open Go.RowKit HP NP
/-- an operation gives a node that says gg, with at most n new ones; or there was no room for these -/
def OpPost (B p q : Nat) (S : NS) (gg : (Nat → Bool) → Bool) (n : Nat) (w : World) (e : Ending) (w' : World) : Prop :=
  ∃ S', Sto w' B p S' ∧ OpsM w' B p q S' ∧ Kp TO B w w' ∧ ((∃ k : Nat, e = .returned (.tuple #[.int .i64 (k : Int), .int .i64 0]) ∧ GotOk S gg n S' k) ∨ (e = .returned (.tuple #[.int .i64 0, .int .i64 30]) ∧ GotNo S n S'))
theorem NP.GotOk.cong {S S' : NS} {g g' : (Nat → Bool) → Bool} {n m k : Nat} (h : GotOk S g n S' k) (hg : ∀ ρ, g ρ = g' ρ) (hm : n ≤ m) : GotOk S g' m S' k := ⟨h.wf, h.ext, h.den.cong hg, by have := h.cnt; omega, h.pin, h.sw⟩
theorem NP.GotNo.mono {S S' : NS} {n m : Nat} (h : GotNo S n S') (hm : n ≤ m) : GotNo S m S' := ⟨h.wf, h.ext, by have := h.room; omega, h.pin, h.sw⟩
theorem OpPost.cong {B p q : Nat} {S : NS} {g g' : (Nat → Bool) → Bool} {n m : Nat} {w : World} {e : Ending} {w' : World} (h : OpPost B p q S g n w e w') (hg : ∀ ρ, g ρ = g' ρ) (hm : n ≤ m) : OpPost B p q S g' m w e w' := by
  obtain ⟨S', h1, h2, h3, h4⟩ := h
  refine ⟨S', h1, h2, h3, ?_⟩
  rcases h4 with ⟨k, h5, h6⟩ | ⟨h5, h6⟩
  · exact .inl ⟨k, h5, h6.cong hg hm⟩
  · exact .inr ⟨h5, h6.mono hm⟩
set_option maxRecDepth 100000 in
set_option maxHeartbeats 1600000 in
theorem oite_ok (w : World) (B p q : Nat) (S : NS) (h : Sto w B p S) (ho : OpsM w B p q S) (hB : B ≤ w.heap.size) (a b c : Nat) (ga gb gc : (Nat → Bool) → Bool) (ha : Den S a ga) (hb : Den S b gb) (hc : Den S c gc) (V : Nat → Bool) (da : Dep V ga) (db : Dep V gb) (dc : Dep V gc) (n : Nat) (hn : 2 ^ rk V S.vars 0 ≤ n + 1) :
    Calls Tryz.prog 61 #[.pointer (some ⟨q, 0, none⟩), .int .i64 (a : Int), .int .i64 (b : Int), .int .i64 (c : Int)] w (OpPost B p q S (fun ρ => if ga ρ then gb ρ else gc ρ) n w) := by
  have HS := Lib.hid h; have HO := Lib.hid ho; have HA := Lib.hid ha; have HBB := Lib.hid hb; have HC := Lib.hid hc; have HN := Lib.hid hn; have DA := Lib.hid (ha.dep da); have DB := Lib.hid (hb.dep db); have DC := Lib.hid (hc.dep dc)
  have hql := ho.lt
  have hsw := ho.2.1
  have hbl := (Below.refl w.heap.size w).alloc (Nat.le_refl _) (.cells #[.int .i64 (a : Int), .int .i64 (b : Int), .int .i64 (c : Int)] 3)
  have HM := Lib.hid (may_ok (w.alloc (.cells #[.int .i64 (a : Int), .int .i64 (b : Int), .int .i64 (c : Int)] 3)) B p q S (h.below hbl) (ho.below hbl) (by simp; omega) (some ⟨w.heap.size, 0, none⟩) [(a : Int), (b : Int), (c : Int)] 3 (by simp) (Cells.lit w _ _) (by
    intro k hk
    simp at hk
    rcases hk with rfl | rfl | rfl
    · rw [isK_nat]; exact ha.is
    · rw [isK_nat]; exact hb.is
    · rw [isK_nat]; exact hc.is))
  have HBL := Lib.hid hbl
  clear h ho ha hb hc hn hbl da db dc
  go_enter Tryz.func61, Tryz.ntmps61
  go_wp2_with fail
  refine HM.out.mono ?_
  rintro e w1 ⟨rfl, g, C, ho1, hk1⟩
  have HK1 : Hid (Kp TO B w w1) := Lib.hid ((Kp.of_below HBL.out).trans (hk1.mono to_tc (Nat.le_refl _)))
  have HS1 := Lib.hid ((HS.out.below HBL.out).kp hk1 rfl rfl rfl rfl rfl)
  have HO1 := Lib.hid ho1
  have hB1 : B ≤ w1.heap.size := by have := HK1.out.size; omega
  clear ho1 hk1
  go_wp2_with fail
  refine (ite_ok B p q g V (rk V S.vars 0) w1 S C a b c 0 HS1.out HO1.out hsw hB1 HA.out.is HBB.out.is HC.out.is (Nat.zero_le _) (Nat.zero_le _) (Nat.zero_le _) DA.out DB.out DC.out (Nat.le_refl _)).mono ?_
  rintro e w2 ⟨S2, C2, hs2, ho2, hk2, hr⟩
  have HS2 := Lib.hid hs2; have HO2 := Lib.hid ho2; have HK2 := Lib.hid (HK1.out.trans hk2)
  clear hs2 ho2 hk2
  rcases hr with ⟨k, rfl, hok⟩ | ⟨rfl, hno⟩
  · have HR := Lib.hid hok
    clear hok
    go_wp2_with fail
    go_ret2
    exact ⟨S2, HS2.out, HO2.out.m (by rw [HR.out.sw]; exact hsw), HK2.out, .inl ⟨k, rfl, HR.out.got HS.out.wf HA.out HBB.out HC.out (fun _ => rfl) HN.out⟩⟩
  · have HR := Lib.hid hno
    clear hno
    go_wp2_with fail
    go_ret2
    exact ⟨S2, HS2.out, HO2.out.m (by rw [HR.out.sw]; exact hsw), HK2.out, .inr ⟨rfl, HR.out.got HN.out⟩⟩
def NonePost (w : World) (e : Ending) (w' : World) : Prop := e = .returned (.tuple #[.int .i64 0, .int .i64 3]) ∧ Below w.heap.size w w'
set_option maxRecDepth 100000 in
set_option maxHeartbeats 1600000 in
theorem oite_no (w : World) (B p q : Nat) (S : NS) (h : Sto w B p S) (ho : OpsM w B p q S) (a b c : Int) (hno : isK S.l a = false ∨ isK S.l b = false ∨ isK S.l c = false) :
    Calls Tryz.prog 61 #[.pointer (some ⟨q, 0, none⟩), .int .i64 a, .int .i64 b, .int .i64 c] w (NonePost w) := by
  have hql := ho.lt
  have hbl := (Below.refl w.heap.size w).alloc (Nat.le_refl _) (.cells #[.int .i64 a, .int .i64 b, .int .i64 c] 3)
  have key : ∃ j K, [a, b, c][j]? = some K ∧ isK S.l K = false ∧ ∀ (i : Nat) (x : Int), i < j → [a, b, c][i]? = some x → isK S.l x = true := by
    by_cases h1 : isK S.l a = true
    · by_cases h2 : isK S.l b = true
      · have h3 : isK S.l c = false := by rcases hno with h | h | h; rw [h1] at h; cases h; rw [h2] at h; cases h; exact h
        refine ⟨2, c, rfl, h3, fun i x hi hx => ?_⟩
        rcases (by omega : i = 0 ∨ i = 1) with rfl | rfl
        · injection hx with hx; rw [← hx]; exact h1
        · injection hx with hx; rw [← hx]; exact h2
      · refine ⟨1, b, rfl, by simpa using h2, fun i x hi hx => ?_⟩
        obtain rfl : i = 0 := by omega
        injection hx with hx; rw [← hx]; exact h1
    · exact ⟨0, a, rfl, by simpa using h1, fun i x hi _ => by omega⟩
  obtain ⟨j, K, hj, hjK, hbef⟩ := key
  have HM := Lib.hid (may_no (w.alloc (.cells #[.int .i64 a, .int .i64 b, .int .i64 c] 3)) B p q S (h.below hbl) (ho.below hbl) (some ⟨w.heap.size, 0, none⟩) [a, b, c] 3 (by simp) (Cells.lit w _ _) j K hj hjK hbef)
  have HBL := Lib.hid hbl
  clear h ho hno hbl hj hjK hbef
  go_enter Tryz.func61, Tryz.ntmps61
  go_wp2_with fail
  refine HM.out.mono ?_
  rintro e w1 ⟨rfl, n, hw1⟩
  have HB1 : Hid (Below w.heap.size w w1) := by rw [hw1]; exact Lib.hid (HBL.out.trans ((bdN' _ _).mono (by simp)))
  clear hw1
  go_wp2_with fail
  go_ret2
  exact ⟨rfl, HB1.out⟩
/-- what an operation of one call gives, with nodes -/
theorem opRet {B p q : Nat} {S : NS} {g : (Nat → Bool) → Bool} {n : Nat} {w : World} {e : Ending} {w' : World} (h : OpPost B p q S g n w e w') : ∃ k x : Int, e = .returned (.tuple #[.int .i64 k, .int .i64 x]) := by
  obtain ⟨S', _, _, _, h4⟩ := h
  rcases h4 with ⟨k, h5, _⟩ | ⟨h5, _⟩
  · exact ⟨_, _, h5⟩
  · exact ⟨_, _, h5⟩
set_option maxHeartbeats 800000 in
theorem oand_ok (w : World) (B p q : Nat) (S : NS) (h : Sto w B p S) (ho : OpsM w B p q S) (hB : B ≤ w.heap.size) (a b : Nat) (ga gb : (Nat → Bool) → Bool) (ha : Den S a ga) (hb : Den S b gb) (V : Nat → Bool) (da : Dep V ga) (db : Dep V gb) (n : Nat) (hn : 2 ^ rk V S.vars 0 ≤ n + 1) :
    Calls Tryz.prog 40 #[.pointer (some ⟨q, 0, none⟩), .int .i64 (a : Int), .int .i64 (b : Int)] w (OpPost B p q S (fun ρ => ga ρ && gb ρ) n w) := by
  have HI := Lib.hid (oite_ok w B p q S h ho hB a b 0 _ _ _ ha hb (Den.zero h.wf) V da db (Dep.const _ _) n hn)
  clear h ho ha hb hn da db
  go_enter Tryz.func40, Tryz.ntmps40
  go_wp2_with fail
  refine HI.out.mono ?_
  intro e w1 hr
  have HR := Lib.hid (hr.cong (g' := fun ρ => ga ρ && gb ρ) (fun ρ => by cases ga ρ <;> rfl) (Nat.le_refl _))
  obtain ⟨k, x, rfl⟩ := opRet hr
  clear hr
  go_wp2_with fail
  go_ret2
  exact HR.out
set_option maxHeartbeats 800000 in
theorem oand_no (w : World) (B p q : Nat) (S : NS) (h : Sto w B p S) (ho : OpsM w B p q S) (a b : Int) (hno : isK S.l a = false ∨ isK S.l b = false) :
    Calls Tryz.prog 40 #[.pointer (some ⟨q, 0, none⟩), .int .i64 a, .int .i64 b] w (NonePost w) := by
  have HI := Lib.hid (oite_no w B p q S h ho a b 0 (by rcases hno with h | h; exact .inl h; exact .inr (.inl h)))
  clear h ho hno
  go_enter Tryz.func40, Tryz.ntmps40
  go_wp2_with fail
  refine HI.out.mono ?_
  rintro e w1 ⟨rfl, hb1⟩
  have HR := Lib.hid hb1
  clear hb1
  go_wp2_with fail
  go_ret2
  exact ⟨rfl, HR.out⟩
set_option maxHeartbeats 800000 in
theorem oor_ok (w : World) (B p q : Nat) (S : NS) (h : Sto w B p S) (ho : OpsM w B p q S) (hB : B ≤ w.heap.size) (a b : Nat) (ga gb : (Nat → Bool) → Bool) (ha : Den S a ga) (hb : Den S b gb) (V : Nat → Bool) (da : Dep V ga) (db : Dep V gb) (n : Nat) (hn : 2 ^ rk V S.vars 0 ≤ n + 1) :
    Calls Tryz.prog 34 #[.pointer (some ⟨q, 0, none⟩), .int .i64 (a : Int), .int .i64 (b : Int)] w (OpPost B p q S (fun ρ => ga ρ || gb ρ) n w) := by
  have HI := Lib.hid (oite_ok w B p q S h ho hB a 1 b _ _ _ ha (Den.one h.wf) hb V da (Dep.const _ _) db n hn)
  clear h ho ha hb hn da db
  go_enter Tryz.func34, Tryz.ntmps34
  go_wp2_with fail
  refine HI.out.mono ?_
  intro e w1 hr
  have HR := Lib.hid (hr.cong (g' := fun ρ => ga ρ || gb ρ) (fun ρ => by cases ga ρ <;> rfl) (Nat.le_refl _))
  obtain ⟨k, x, rfl⟩ := opRet hr
  clear hr
  go_wp2_with fail
  go_ret2
  exact HR.out
set_option maxHeartbeats 800000 in
theorem oor_no (w : World) (B p q : Nat) (S : NS) (h : Sto w B p S) (ho : OpsM w B p q S) (a b : Int) (hno : isK S.l a = false ∨ isK S.l b = false) :
    Calls Tryz.prog 34 #[.pointer (some ⟨q, 0, none⟩), .int .i64 a, .int .i64 b] w (NonePost w) := by
  have HI := Lib.hid (oite_no w B p q S h ho a 1 b (by rcases hno with h | h; exact .inl h; exact .inr (.inr h)))
  clear h ho hno
  go_enter Tryz.func34, Tryz.ntmps34
  go_wp2_with fail
  refine HI.out.mono ?_
  rintro e w1 ⟨rfl, hb1⟩
  have HR := Lib.hid hb1
  clear hb1
  go_wp2_with fail
  go_ret2
  exact ⟨rfl, HR.out⟩
set_option maxHeartbeats 800000 in
theorem odiff_ok (w : World) (B p q : Nat) (S : NS) (h : Sto w B p S) (ho : OpsM w B p q S) (hB : B ≤ w.heap.size) (a b : Nat) (ga gb : (Nat → Bool) → Bool) (ha : Den S a ga) (hb : Den S b gb) (V : Nat → Bool) (da : Dep V ga) (db : Dep V gb) (n : Nat) (hn : 2 ^ rk V S.vars 0 ≤ n + 1) :
    Calls Tryz.prog 121 #[.pointer (some ⟨q, 0, none⟩), .int .i64 (a : Int), .int .i64 (b : Int)] w (OpPost B p q S (fun ρ => ga ρ && !gb ρ) n w) := by
  have HI := Lib.hid (oite_ok w B p q S h ho hB b 0 a _ _ _ hb (Den.zero h.wf) ha V db (Dep.const _ _) da n hn)
  clear h ho ha hb hn da db
  go_enter Tryz.func121, Tryz.ntmps121
  go_wp2_with fail
  refine HI.out.mono ?_
  intro e w1 hr
  have HR := Lib.hid (hr.cong (g' := fun ρ => ga ρ && !gb ρ) (fun ρ => by cases ga ρ <;> cases gb ρ <;> rfl) (Nat.le_refl _))
  obtain ⟨k, x, rfl⟩ := opRet hr
  clear hr
  go_wp2_with fail
  go_ret2
  exact HR.out
set_option maxHeartbeats 800000 in
theorem odiff_no (w : World) (B p q : Nat) (S : NS) (h : Sto w B p S) (ho : OpsM w B p q S) (a b : Int) (hno : isK S.l a = false ∨ isK S.l b = false) :
    Calls Tryz.prog 121 #[.pointer (some ⟨q, 0, none⟩), .int .i64 a, .int .i64 b] w (NonePost w) := by
  have HI := Lib.hid (oite_no w B p q S h ho b 0 a (by rcases hno with h | h; exact .inr (.inr h); exact .inl h))
  clear h ho hno
  go_enter Tryz.func121, Tryz.ntmps121
  go_wp2_with fail
  refine HI.out.mono ?_
  rintro e w1 ⟨rfl, hb1⟩
  have HR := Lib.hid hb1
  clear hb1
  go_wp2_with fail
  go_ret2
  exact ⟨rfl, HR.out⟩
end Go.Proofs.YtobhjkfkdkiigaaGreatDoor

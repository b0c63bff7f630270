/- Layer 4: the contract of Xor; operations that nobody made. -/
import Derived.Test.YtffkehefkmdadaaOperF
namespace Go.Proofs.Ytffkehefkmdadaa
open Go.RowKit HP NP
set_option maxRecDepth 100000 in
set_option maxHeartbeats 1600000 in
theorem oxor_ok (w : World) (B p q : Nat) (S : NS) (h : Sto w B p S) (ho : OpsM w B p q S) (hB : B ≤ w.heap.size) (a b : Nat) (ga gb : (Nat → Bool) → Bool) (ha : Den S a ga) (hb : Den S b gb) (n m : Nat) (hn : 2 ^ S.vars ≤ n + 1) (hm : n + n ≤ m) :
    Calls Try.prog 34 #[.pointer (some ⟨q, 0, none⟩), .int .i64 (a : Int), .int .i64 (b : Int)] w (OpPost B p q S (fun ρ => ga ρ ^^ gb ρ) m w) := by
  have HS := Lib.hid h; have HO := Lib.hid ho; have HA := Lib.hid ha; have HBB := Lib.hid hb; have HN := Lib.hid hn
  have hql := ho.lt
  have hsw := ho.2.1
  have hbl := (Below.refl w.heap.size w).alloc (Nat.le_refl _) (.cells #[.int .i64 (a : Int), .int .i64 (b : Int)] 3)
  have HM := Lib.hid (may_ok (w.alloc (.cells #[.int .i64 (a : Int), .int .i64 (b : Int)] 3)) B p q S (h.below hbl) (ho.below hbl) (by simp; omega) (some ⟨w.heap.size, 0, none⟩) [(a : Int), (b : Int)] 2 (by simp) (Cells.lit w _ _) (by
    intro k hk
    simp at hk
    rcases hk with rfl | rfl
    · rw [isK_nat]; exact ha.is
    · rw [isK_nat]; exact hb.is))
  have HBL := Lib.hid hbl
  clear h ho ha hb hn hbl
  go_enter Try.func34, Try.ntmps34
  go_wp2_with fail
  refine HM.out.mono ?_
  rintro e w1 ⟨rfl, g, C, ho1, hk1⟩
  have HK1 : Hid (Kp TO B w w1) := Lib.hid ((Kp.of_below HBL.out).trans (hk1.mono to_tc (Nat.le_refl _)))
  have HS1 := Lib.hid ((HS.out.below HBL.out).kp hk1 rfl rfl rfl rfl rfl)
  have HO1 := Lib.hid ho1
  have hB1 : B ≤ w1.heap.size := by have := HK1.out.size; omega
  clear ho1 hk1
  go_wp2_with fail
  refine (ite_ok B p q g S.vars w1 S C b 0 1 0 HS1.out HO1.out hsw hB1 HBB.out.is HS.out.wf.is0 HS.out.wf.is1 (Nat.zero_le _) (Nat.zero_le _) (Nat.zero_le _) (by omega)).mono ?_
  rintro e w2 ⟨S2, C2, hs2, ho2, hk2, hr⟩
  have HS2 := Lib.hid hs2; have HO2 := Lib.hid ho2; have HK2 := Lib.hid (HK1.out.trans hk2)
  have hB2 : B ≤ w2.heap.size := by have := HK2.out.size; omega
  clear hs2 ho2 hk2
  rcases hr with ⟨k, rfl, hok⟩ | ⟨rfl, hno⟩
  · have HR := Lib.hid (hok.got HS.out.wf HBB.out (Den.zero HS.out.wf) (Den.one HS.out.wf) (g := fun ρ => !gb ρ) (fun ρ => by cases gb ρ <;> rfl) HN.out)
    clear hok
    go_wp2_with fail
    refine (ite_ok B p q g S2.vars w2 S2 C2 a k b 0 HS2.out HO2.out (by rw [HR.out.sw]; exact hsw) hB2 (HR.out.ext.isB HA.out.is) HR.out.den.is (HR.out.ext.isB HBB.out.is) (Nat.zero_le _) (Nat.zero_le _) (Nat.zero_le _) (by omega)).mono ?_
    rintro e w3 ⟨S3, C3, hs3, ho3, hk3, hr⟩
    have HS3 := Lib.hid hs3; have HO3 := Lib.hid ho3; have HK3 := Lib.hid (HK2.out.trans hk3)
    clear hs3 ho3 hk3
    have hn2 : 2 ^ S2.vars ≤ n + 1 := by rw [HR.out.ext.vars]; exact HN.out
    have HN2 := Lib.hid hn2
    clear hn2
    rcases hr with ⟨k2, rfl, hok⟩ | ⟨rfl, hno⟩
    · have HR3 := Lib.hid (hok.got HR.out.wf (HA.out.ext HR.out.ext HS.out.wf HR.out.wf) HR.out.den (HBB.out.ext HR.out.ext HS.out.wf HR.out.wf) (g := fun ρ => ga ρ ^^ gb ρ) (fun ρ => by cases ga ρ <;> cases gb ρ <;> rfl) HN2.out)
      clear hok
      go_wp2_with fail
      go_ret2
      exact ⟨S3, HS3.out, HO3.out.m (by rw [HR3.out.sw, HR.out.sw]; exact hsw), HK3.out, .inl ⟨k2, rfl, ⟨HR3.out.wf, HR.out.ext.trans HR3.out.ext, HR3.out.den, by have := HR.out.cnt; have := HR3.out.cnt; omega, fun j => Nat.le_trans (HR3.out.pin j) (HR.out.pin j), HR3.out.sw.trans HR.out.sw⟩⟩⟩
    · have HR3 := Lib.hid (hno.got HN2.out)
      clear hno
      go_wp2_with fail
      go_ret2
      exact ⟨S3, HS3.out, HO3.out.m (by rw [HR3.out.sw, HR.out.sw]; exact hsw), HK3.out, .inr ⟨rfl, ⟨HR3.out.wf, HR.out.ext.trans HR3.out.ext, by have := HR.out.cnt; have := HR3.out.room; rw [HR.out.ext.budget] at this; omega, fun j => Nat.le_trans (HR3.out.pin j) (HR.out.pin j), HR3.out.sw.trans HR.out.sw⟩⟩⟩
  · have HR := Lib.hid (hno.got HN.out)
    clear hno
    go_wp2_with fail
    go_ret2
    exact ⟨S2, HS2.out, HO2.out.m (by rw [HR.out.sw]; exact hsw), HK2.out, .inr ⟨rfl, HR.out.mono (by omega)⟩⟩
set_option maxRecDepth 100000 in
set_option maxHeartbeats 1600000 in
theorem oxor_no (w : World) (B p q : Nat) (S : NS) (h : Sto w B p S) (ho : OpsM w B p q S) (a b : Int) (hno : isK S.l a = false ∨ isK S.l b = false) :
    Calls Try.prog 34 #[.pointer (some ⟨q, 0, none⟩), .int .i64 a, .int .i64 b] w (NonePost w) := by
  have hql := ho.lt
  have hbl := (Below.refl w.heap.size w).alloc (Nat.le_refl _) (.cells #[.int .i64 a, .int .i64 b] 3)
  have key : ∃ j K, [a, b][j]? = some K ∧ isK S.l K = false ∧ ∀ (i : Nat) (x : Int), i < j → [a, b][i]? = some x → isK S.l x = true := by
    by_cases h1 : isK S.l a = true
    · have h2 : isK S.l b = false := by rcases hno with h | h; rw [h1] at h; cases h; exact h
      refine ⟨1, b, rfl, h2, fun i x hi hx => ?_⟩
      obtain rfl : i = 0 := by omega
      injection hx with hx; rw [← hx]; exact h1
    · exact ⟨0, a, rfl, by simpa using h1, fun i x hi _ => by omega⟩
  obtain ⟨j, K, hj, hjK, hbef⟩ := key
  have HM := Lib.hid (may_no (w.alloc (.cells #[.int .i64 a, .int .i64 b] 3)) B p q S (h.below hbl) (ho.below hbl) (some ⟨w.heap.size, 0, none⟩) [a, b] 2 (by simp) (Cells.lit w _ _) j K hj hjK hbef)
  have HBL := Lib.hid hbl
  clear h ho hno hbl hj hjK hbef
  go_enter Try.func34, Try.ntmps34
  go_wp2_with fail
  refine HM.out.mono ?_
  rintro e w1 ⟨rfl, n, hw1⟩
  have HB1 : Hid (Below w.heap.size w w1) := by rw [hw1]; exact Lib.hid (HBL.out.trans ((bdN' _ _).mono (by simp)))
  clear hw1
  go_wp2_with fail
  go_ret2
  exact ⟨rfl, HB1.out⟩
/-! ### operations that nobody made -/
/-- nil, or operations of no store -/
def NoOps (w : World) (a : Option Addr) : Prop := a = none ∨ ∃ q, a = some ⟨q, 0, none⟩ ∧ Blk w q 67 #[.pointer none, .int .u32 0, .int .i32 0, .int .u32 0, .slice none 0 0, .int .i64 0]
theorem NoOps.below {w w' : World} {a : Option Addr} (h : NoOps w a) (hb : Below w.heap.size w w') : NoOps w' a := by
  rcases h with h | ⟨q, h, hq⟩
  · exact .inl h
  · exact .inr ⟨q, h, hq.below hb hq.lt⟩
def ArgPost (w : World) (e : Ending) (w' : World) : Prop := e = .returned (.tuple #[.int .i64 0, .int .i64 1]) ∧ Below w.heap.size w w'
set_option maxHeartbeats 800000 in
theorem nomay (w : World) (a : Option Addr) (h : NoOps w a) (la : Option Addr) (n c : Nat) : Calls Try.prog 67 #[.pointer a, .slice la n c] w fun e w' => e = .returned (.int .i64 1) ∧ w = w' := by
  rcases h with rfl | ⟨q, rfl, hq⟩
  · go_enter Try.func67, Try.ntmps67
    go_wp2
    go_ret
    exact ⟨rfl, rfl⟩
  · have c0 : w.cell? ⟨q, 0, none⟩ = some (.pointer none) := hq.cell 0
    have hql := hq.lt
    clear hq
    go_enter Try.func67, Try.ntmps67
    go_wp2
    go_ret
    exact ⟨rfl, rfl⟩
set_option maxHeartbeats 800000 in
theorem nostore (w : World) (a : Option Addr) (h : NoOps w a) : Calls Try.prog 37 #[.pointer a] w fun e w' => e = .returned (.pointer none) ∧ w = w' := by
  rcases h with rfl | ⟨q, rfl, hq⟩
  · go_enter Try.func37, Try.ntmps37
    go_wp2
    go_ret
    exact ⟨rfl, rfl⟩
  · have c0 : w.cell? ⟨q, 0, none⟩ = some (.pointer none) := hq.cell 0
    have hql := hq.lt
    clear hq
    go_enter Try.func37, Try.ntmps37
    go_wp2
    go_ret
    exact ⟨rfl, rfl⟩
set_option maxHeartbeats 800000 in
theorem noite (w : World) (o : Option Addr) (h : NoOps w o) (a b c : Int) : Calls Try.prog 28 #[.pointer o, .int .i64 a, .int .i64 b, .int .i64 c] w (ArgPost w) := by
  have hbl := (Below.refl w.heap.size w).alloc (Nat.le_refl _) (.cells #[.int .i64 a, .int .i64 b, .int .i64 c] 3)
  have HM := Lib.hid (nomay _ o (h.below hbl) (some ⟨w.heap.size, 0, none⟩) 3 3)
  have HBL := Lib.hid hbl
  clear h hbl
  go_enter Try.func28, Try.ntmps28
  go_wp2_with fail
  refine HM.out.mono ?_
  rintro e w1 ⟨rfl, rfl⟩
  go_wp2_with fail
  go_ret2
  exact ⟨rfl, HBL.out⟩
set_option maxHeartbeats 800000 in
theorem nonot (w : World) (o : Option Addr) (h : NoOps w o) (a : Int) : Calls Try.prog 27 #[.pointer o, .int .i64 a] w (ArgPost w) := by
  have HI := Lib.hid (noite w o h a 0 1)
  clear h
  go_enter Try.func27, Try.ntmps27
  go_wp2_with fail
  refine HI.out.mono ?_
  rintro e w1 ⟨rfl, hb1⟩
  have HR := Lib.hid hb1
  clear hb1
  go_wp2_with fail
  go_ret2
  exact ⟨rfl, HR.out⟩
set_option maxHeartbeats 800000 in
theorem noand (w : World) (o : Option Addr) (h : NoOps w o) (a b : Int) : Calls Try.prog 26 #[.pointer o, .int .i64 a, .int .i64 b] w (ArgPost w) := by
  have HI := Lib.hid (noite w o h a b 0)
  clear h
  go_enter Try.func26, Try.ntmps26
  go_wp2_with fail
  refine HI.out.mono ?_
  rintro e w1 ⟨rfl, hb1⟩
  have HR := Lib.hid hb1
  clear hb1
  go_wp2_with fail
  go_ret2
  exact ⟨rfl, HR.out⟩
set_option maxHeartbeats 800000 in
theorem noor (w : World) (o : Option Addr) (h : NoOps w o) (a b : Int) : Calls Try.prog 25 #[.pointer o, .int .i64 a, .int .i64 b] w (ArgPost w) := by
  have HI := Lib.hid (noite w o h a 1 b)
  clear h
  go_enter Try.func25, Try.ntmps25
  go_wp2_with fail
  refine HI.out.mono ?_
  rintro e w1 ⟨rfl, hb1⟩
  have HR := Lib.hid hb1
  clear hb1
  go_wp2_with fail
  go_ret2
  exact ⟨rfl, HR.out⟩
set_option maxHeartbeats 800000 in
theorem nodiff (w : World) (o : Option Addr) (h : NoOps w o) (a b : Int) : Calls Try.prog 33 #[.pointer o, .int .i64 a, .int .i64 b] w (ArgPost w) := by
  have HI := Lib.hid (noite w o h b 0 a)
  clear h
  go_enter Try.func33, Try.ntmps33
  go_wp2_with fail
  refine HI.out.mono ?_
  rintro e w1 ⟨rfl, hb1⟩
  have HR := Lib.hid hb1
  clear hb1
  go_wp2_with fail
  go_ret2
  exact ⟨rfl, HR.out⟩
set_option maxHeartbeats 800000 in
theorem noxor (w : World) (o : Option Addr) (h : NoOps w o) (a b : Int) : Calls Try.prog 34 #[.pointer o, .int .i64 a, .int .i64 b] w (ArgPost w) := by
  have hbl := (Below.refl w.heap.size w).alloc (Nat.le_refl _) (.cells #[.int .i64 a, .int .i64 b] 3)
  have HM := Lib.hid (nomay _ o (h.below hbl) (some ⟨w.heap.size, 0, none⟩) 2 2)
  have HBL := Lib.hid hbl
  clear h hbl
  go_enter Try.func34, Try.ntmps34
  go_wp2_with fail
  refine HM.out.mono ?_
  rintro e w1 ⟨rfl, rfl⟩
  go_wp2_with fail
  go_ret2
  exact ⟨rfl, HBL.out⟩
end Go.Proofs.Ytffkehefkmdadaa

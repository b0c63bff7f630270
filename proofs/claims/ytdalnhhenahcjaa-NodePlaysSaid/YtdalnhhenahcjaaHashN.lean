/- The reference's Get. -/
import Derived.Test.YtdalnhhenahcjaaHashM
namespace Go.Proofs.Ytdalnhhenahcjaa
open Go.RowKit HP
def rgV (L : List (Key × Int)) (c : Key) : Int := if fk L c < L.length then (L.getD (fk L c) ((0, 0, 0), 0)).2 else 0
def rgE (L : List (Key × Int)) (c : Key) : Int := if fk L c < L.length then 0 else 3
set_option maxHeartbeats 800000 in
theorem rget_ok (w : World) (L : List (Key × Int)) (hl : L.length ≤ 300) (ka va : Option Addr) (kc vc : Nat) (c : Key) (h : RT w L ka va) :
    Calls Try.prog 23 #[.agg #[.slice ka L.length kc, .slice va L.length vc], .agg #[.int .i64 c.1, .int .i64 c.2.1, .int .i64 c.2.2]] w fun e w' => e = .returned (.tuple #[.int .i64 (rgV L c), .int .i64 (rgE L c)]) ∧ Below w.heap.size w w' := by
  have hal : ∀ o1 o2, RT ((w.alloc o1).alloc o2) L ka va := fun o1 o2 => h.below (((Below.refl _ _).alloc (Nat.le_refl _) _).alloc (by simp) _)
  have HP0 := Lib.hid (fun W (hW : RT W L ka va) => place_ok W L hl ka va kc vc c hW)
  have HAL := Lib.hid hal
  have HR := Lib.hid h
  obtain ⟨N, hN⟩ : ∃ N, N = L.length := ⟨_, rfl⟩
  have HN := Lib.hid hN
  rw [← hN] at hl HP0 ⊢
  obtain ⟨f, hf⟩ : ∃ f, f = fk L c := ⟨_, rfl⟩
  have HF := Lib.hid hf
  have hfl : f ≤ N := by rw [hf, hN]; exact fk_le L c
  clear hN h hal hf
  by_cases hlt : f < N
  · have hpl : plc L c = (f : Int) := by unfold plc; rw [← HF.out, if_pos (by rw [← HN.out]; exact hlt)]
    have HPL := Lib.hid hpl
    have hv : rgV L c = (L[f]'(by rw [← HN.out]; exact hlt)).2 ∧ rgE L c = 0 := by
      unfold rgV rgE
      rw [← HF.out, if_pos (by rw [← HN.out]; exact hlt), if_pos (by rw [← HN.out]; exact hlt), List.getD_eq_getElem?_getD, List.getElem?_eq_getElem (by rw [← HN.out]; exact hlt)]
      exact ⟨rfl, rfl⟩
    obtain ⟨y, hy⟩ : ∃ y, y = (L[f]'(by rw [← HN.out]; exact hlt)).2 := ⟨_, rfl⟩
    rw [← hy] at hv
    have HV := Lib.hid hv
    obtain ⟨b, off, rfl, hb, k0⟩ := HR.out.vals.at_ (k := f) (v := .int .i64 y) (by rw [List.getElem?_map, List.getElem?_eq_getElem (by rw [← HN.out]; exact hlt), hy]; rfl)
    clear hpl hv hy
    go_enter Try.func23, Try.ntmps23
    go_wp2_with fail
    refine (HP0.out _ (HAL.out _ _)).mono ?_
    rintro e w1 ⟨rfl, hb1⟩
    rw [HPL.out]
    have c1 : w1.cell? ⟨w.heap.size, 1, none⟩ = some (.slice (some ⟨b, off, none⟩) N vc) := (hb1.cell (p := ⟨w.heap.size, 1, none⟩) (by simp; omega)).trans (((Blk.new_ w 43 _).alloc_ _).cell 1)
    have m0 := (hb1.cell (p := ⟨b, off + f, none⟩) (by show b < _; simp; omega)).trans ((World.cell?_alloc_lt _ _ _ (by show b < _; simp; omega)).trans ((World.cell?_alloc_lt _ _ _ hb).trans k0))
    have hlt1 : w.heap.size + 2 ≤ w1.heap.size := by have := hb1.size; simp at this; omega
    have HB1 := Lib.hid ((((Below.refl _ w).alloc (Nat.le_refl _) (.cells #[.slice ka N kc, .slice (some ⟨b, off, none⟩) N vc] 43)).alloc (by simp) (.cells #[.int .i64 c.1, .int .i64 c.2.1, .int .i64 c.2.2] 26)).trans (hb1.mono (by simp; omega)))
    clear hb1 k0
    go_wp2_with fail
    go_ret2
    exact ⟨ret_int2 HV.out.1.symm HV.out.2.symm, HB1.out⟩
  · have hpl : plc L c = -1 := by unfold plc; rw [← HF.out, if_neg (by rw [← HN.out]; exact hlt)]
    have HPL := Lib.hid hpl
    have hv : rgV L c = 0 ∧ rgE L c = 3 := by
      unfold rgV rgE
      rw [← HF.out, if_neg (by rw [← HN.out]; exact hlt), if_neg (by rw [← HN.out]; exact hlt)]
      exact ⟨rfl, rfl⟩
    have HV := Lib.hid hv
    clear hpl hv
    go_enter Try.func23, Try.ntmps23
    go_wp2_with fail
    refine (HP0.out _ (HAL.out _ _)).mono ?_
    rintro e w1 ⟨rfl, hb1⟩
    rw [HPL.out]
    have HB1 := Lib.hid ((((Below.refl _ w).alloc (Nat.le_refl _) (.cells #[.slice ka N kc, .slice va N vc] 43)).alloc (by simp) (.cells #[.int .i64 c.1, .int .i64 c.2.1, .int .i64 c.2.2] 26)).trans (hb1.mono (by simp; omega)))
    clear hb1
    go_wp2_with fail
    go_ret2
    exact ⟨ret_int2 HV.out.1.symm HV.out.2.symm, HB1.out⟩
end Go.Proofs.Ytdalnhhenahcjaa

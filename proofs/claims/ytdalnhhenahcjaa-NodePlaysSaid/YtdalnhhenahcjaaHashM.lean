/- The reference's table (osierref02): place, Get, Drop, Put by contracts over a list of keys and values. -/
import Derived.Test.YtdalnhhenahcjaaHashL2
import Derived.BigQuiet
namespace Go.Proofs.Ytdalnhhenahcjaa
open Go.RowKit HP
/-- the place of a key; the length: it stands nowhere -/
def fk : List (Key × Int) → Key → Nat
  | [], _ => 0
  | x :: t, c => if x.1 = c then 0 else fk t c + 1
theorem fk_le (L : List (Key × Int)) (c : Key) : fk L c ≤ L.length := by
  induction L with
  | nil => simp [fk]
  | cons x t ih => rw [fk]; split <;> simp <;> omega
/-- the block at which a slice lies has elements of a type -/
def TB (w : World) (a : Option Addr) (t : TypeId) : Prop := ∀ b off s, a = some ⟨b, off, s⟩ → ∃ cs, Blk w b t cs
theorem TB.below {w w' : World} {a : Option Addr} {t : TypeId} (h : TB w a t) (hb : Below w.heap.size w w') : TB w' a t := fun b off s e => by
  obtain ⟨cs, hc⟩ := h b off s e
  exact ⟨cs, hc.below hb hc.lt⟩
theorem TB.nil (w : World) (t : TypeId) : TB w none t := fun _ _ _ e => nomatch e
/-- the reference's table lies in memory -/
structure RT (w : World) (L : List (Key × Int)) (ka va : Option Addr) : Prop where
  kt : TB w ka 26
  vt : TB w va 3
  keys : Cells w ka ((L.map (·.1)).flatMap keyCells)
  vals : Cells w va (L.map fun x => .int .i64 x.2)
theorem RT.below {w w' : World} {L : List (Key × Int)} {ka va : Option Addr} (h : RT w L ka va) (hb : Below w.heap.size w w') : RT w' L ka va := ⟨h.kt.below hb, h.vt.below hb, h.keys.below hb, h.vals.below hb⟩
def plc (L : List (Key × Int)) (c : Key) : Int := if fk L c < L.length then (fk L c : Int) else -1
abbrev tabV (ka va : Option Addr) (n kc vc : Nat) : Value := .agg #[.slice ka n kc, .slice va n vc]
abbrev keyV (c : Key) : Value := .agg #[.int .i64 c.1, .int .i64 c.2.1, .int .i64 c.2.2]
set_option maxHeartbeats 800000 in
theorem place_ok (w : World) (L : List (Key × Int)) (hl : L.length ≤ 300) (ka va : Option Addr) (kc vc : Nat) (c : Key) (h : RT w L ka va) :
    Calls Try.prog 47 #[.agg #[.slice ka L.length kc, .slice va L.length vc], .agg #[.int .i64 c.1, .int .i64 c.2.1, .int .i64 c.2.2]] w fun e w' => e = .returned (.int .i64 (plc L c)) ∧ Below w.heap.size w w' := by
  obtain ⟨N, hN⟩ : ∃ N, N = L.length := ⟨_, rfl⟩
  have HN := Lib.hid hN
  have HR := Lib.hid h
  rw [← hN] at hl ⊢
  clear hN h
  have hgd : ∀ (x y : Operand) (a b d a' b' d' : Value) (w : World), (eqGuard .eql 26 x y (.agg #[a, b, d]) (.agg #[a', b', d'])).run Try.prog w = .ok () w := fun x y a b d a' b' d' w => guard_arr3 x y _ _ w
  go_enter Try.func47, Try.ntmps47
  go_wp2_with fail
  go_loopg [5] N (fun m x wr => ∃ k : Nat, m + k = N ∧ x = .int .i64 (k : Int) ∧ fk L c = k + fk (L.drop k) c ∧ w.heap.size + 1 < wr.heap.size ∧ wr.cell? ⟨w.heap.size, 0, none⟩ = some (.slice ka N kc) ∧ wr.cell? ⟨w.heap.size + 1, 0, none⟩ = some (.int .i64 c.1) ∧ wr.cell? ⟨w.heap.size + 1, 1, none⟩ = some (.int .i64 c.2.1) ∧ wr.cell? ⟨w.heap.size + 1, 2, none⟩ = some (.int .i64 c.2.2) ∧ Below w.heap.size w wr)
  case atStart =>
    have e1 : (w.alloc (.cells #[.slice ka N kc, .slice va N vc] 43)).heap.size = w.heap.size + 1 := by simp
    have b0 := (Blk.new_ w 43 #[.slice ka N kc, .slice va N vc]).alloc_ (.cells #[.int .i64 c.1, .int .i64 c.2.1, .int .i64 c.2.2] 26)
    have b1 := Blk.new_ (w.alloc (.cells #[.slice ka N kc, .slice va N vc] 43)) 26 #[.int .i64 c.1, .int .i64 c.2.1, .int .i64 c.2.2]
    rw [e1] at b1
    exact ⟨0, rfl, rfl, by simp, by simp, b0.cell 0, b1.cell 0, b1.cell 1, b1.cell 2, ((Below.refl _ _).alloc (Nat.le_refl _) _).alloc (by simp) _⟩
  case round =>
    obtain ⟨k, hmk, rfl, hfk, hsz, c0, x0, x1, x2, hB⟩ := hrel
    have HM := Lib.hid hmk; have HF := Lib.hid hfk; have HB := Lib.hid hB; have HSZ := Lib.hid hsz
    clear hmk hfk hB hsz
    by_cases hk : k < N
    · have hkl : k < L.length := by rw [← HN.out]; exact hk
      obtain ⟨y, hy⟩ : ∃ y, y = L[k] := ⟨_, rfl⟩
      have hd : L.drop k = y :: L.drop (k + 1) := by rw [hy]; exact List.drop_eq_getElem_cons hkl
      obtain ⟨b, off, rfl, hb, k0, k1, k2⟩ := HR.out.keys.key (i := k) (c := y.1) (by rw [List.getElem?_map, List.getElem?_eq_getElem hkl, hy]; rfl)
      have m0 := (HB.out.cell (p := ⟨b, off + k * 3, none⟩) hb).trans k0
      have m1 := (HB.out.cell (p := ⟨b, off + k * 3 + 1, none⟩) hb).trans k1
      have m2 := (HB.out.cell (p := ⟨b, off + k * 3 + 2, none⟩) hb).trans k2
      have hkey := eq_keys y.1 c
      clear k0 k1 k2 hy hkl
      by_cases he : y.1 = c
      · have hf : fk L c = k := by rw [HF.out, hd, fk, if_pos he]; omega
        have hkd : decide (y.1 = c) = true := decide_eq_true he
        have HFF := Lib.hid hf
        clear hd hf he
        go_wp2_with fail
        go_region
        all_goals go_wp2_with fail
        all_goals go_ret
        all_goals exact ⟨ret_int (by unfold plc; rw [HFF.out, if_pos (by rw [← HN.out]; exact hk)]), HB.out.drew⟩
      · have hf : fk L c = (k + 1) + fk (L.drop (k + 1)) c := by rw [HF.out, hd, fk, if_neg he]; omega
        have hkd : decide (y.1 = c) = false := decide_eq_false he
        have HFF := Lib.hid hf
        clear hd hf he
        go_wp2_with fail
        go_region
        all_goals go_wp2_with fail
        all_goals go_roundg (N - (k + 1))
        all_goals first | (have := HM.out; omega) | exact ⟨k + 1, by omega, by go_num, HFF.out, HSZ.out, c0, x0, x1, x2, HB.out.drew⟩
    · have hf : fk L c = L.length := by
        rw [HF.out, List.drop_eq_nil_of_le (by rw [← HN.out]; omega), fk]; have := HM.out; have := HN.out; omega
      have HFF := Lib.hid hf
      have hge : N ≤ k := by omega
      clear hf hk
      go_wp2_with fail
      go_ret
      exact ⟨ret_int (by unfold plc; rw [HFF.out, if_neg (by omega)]), HB.out⟩
end Go.Proofs.Ytdalnhhenahcjaa

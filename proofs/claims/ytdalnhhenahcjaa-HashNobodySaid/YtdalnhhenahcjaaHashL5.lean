/- HashNobody: contracts of a table that nobody made, and the walk. -/
import Derived.Test.YtdalnhhenahcjaaHashE
namespace Go.Proofs.Ytdalnhhenahcjaa
open Go.RowKit HP
def zeroT : Array Value := #[.slice none 0 0, .int .i64 0, .int .i64 0]
def Nob (a : Option Addr) (w : World) : Prop := a = none ∨ ∃ p, a = some ⟨p, 0, none⟩ ∧ Blk w p 54 zeroT
theorem Nob.alloc_ {a : Option Addr} {w : World} (h : Nob a w) (o : Obj) : Nob a (w.alloc o) := h.elim .inl fun ⟨p, e, hp⟩ => .inr ⟨p, e, hp.alloc_ o⟩
theorem Nob.drew_ {a : Option Addr} {w : World} (h : Nob a w) : Nob a w.drew := h
theorem Nob.below {a : Option Addr} {w w' : World} (h : Nob a w) (hb : Below w.heap.size w w') : Nob a w' := h.elim .inl fun ⟨p, e, hp⟩ => .inr ⟨p, e, hp.below hb hp.lt⟩
theorem nob_given {a : Option Addr} {w : World} (h : Nob a w) : Calls Try.prog 44 #[.pointer a] w fun e w' => e = .returned (.bool false) ∧ w = w' := by
  rcases h with rfl | ⟨p, rfl, hp⟩
  · exact given_nil w
  · exact given_zero w p _ _ hp
set_option maxHeartbeats 400000 in
theorem nob_get (w : World) (a : Option Addr) (c : Key) (h : Nob a w) : Calls Try.prog 18 #[.pointer a, .agg #[.int .i64 c.1, .int .i64 c.2.1, .int .i64 c.2.2]] w fun e w' => e = .returned (.tuple #[.int .i64 0, .int .i64 1]) ∧ Below w.heap.size w w' := by
  have H := Lib.hid h; clear h
  go_enter Try.func18, Try.ntmps18
  go_wp2_with fail
  refine (nob_given (H.out.alloc_ _)).mono ?_
  rintro e w' ⟨rfl, rfl⟩
  go_wp2_with fail
  go_ret2
  exact ⟨rfl, (Below.refl _ _).alloc (Nat.le_refl _) _⟩
set_option maxHeartbeats 400000 in
theorem nob_put (w : World) (a : Option Addr) (c : Key) (v : Int) (h : Nob a w) : Calls Try.prog 17 #[.pointer a, .agg #[.int .i64 c.1, .int .i64 c.2.1, .int .i64 c.2.2], .int .i64 v] w fun e w' => e = .returned (.int .i64 1) ∧ Below w.heap.size w w' := by
  have H := Lib.hid h; clear h
  go_enter Try.func17, Try.ntmps17
  go_wp2_with fail
  refine (nob_given (H.out.alloc_ _)).mono ?_
  rintro e w' ⟨rfl, rfl⟩
  go_wp2_with fail
  go_ret
  exact ⟨rfl, (Below.refl _ _).alloc (Nat.le_refl _) _⟩
set_option maxHeartbeats 400000 in
theorem nob_drop (w : World) (a : Option Addr) (c : Key) (h : Nob a w) : Calls Try.prog 21 #[.pointer a, .agg #[.int .i64 c.1, .int .i64 c.2.1, .int .i64 c.2.2]] w fun e w' => e = .returned (.bool false) ∧ Below w.heap.size w w' := by
  have H := Lib.hid h; clear h
  go_enter Try.func21, Try.ntmps21
  go_wp2_with fail
  refine (nob_given (H.out.alloc_ _)).mono ?_
  rintro e w' ⟨rfl, rfl⟩
  go_wp2_with fail
  go_ret
  exact ⟨rfl, (Below.refl _ _).alloc (Nat.le_refl _) _⟩
set_option maxHeartbeats 400000 in
theorem nob_len (w : World) (a : Option Addr) (h : Nob a w) : Calls Try.prog 19 #[.pointer a] w fun e w' => e = .returned (.int .i64 0) ∧ Below w.heap.size w w' := by
  have H := Lib.hid h; clear h
  go_enter Try.func19, Try.ntmps19
  go_wp2_with fail
  refine (nob_given H.out).mono ?_
  rintro e w' ⟨rfl, rfl⟩
  go_wp2_with fail
  go_ret
  exact ⟨rfl, Below.refl _ _⟩
set_option maxHeartbeats 400000 in
theorem nob_clear (w : World) (a : Option Addr) (h : Nob a w) : Calls Try.prog 20 #[.pointer a] w fun e w' => e = .returned (.int .i64 1) ∧ Below w.heap.size w w' := by
  have H := Lib.hid h; clear h
  go_enter Try.func20, Try.ntmps20
  go_wp2_with fail
  refine (nob_given H.out).mono ?_
  rintro e w' ⟨rfl, rfl⟩
  go_wp2_with fail
  go_ret
  exact ⟨rfl, Below.refl _ _⟩
/-- HashNobody's three boxes: the key, the table that nobody made, the two pointers -/
structure NB (w0 : World) (c : Key) (w : World) : Prop where
  lt : w0.heap.size + 2 < w.heap.size
  k0 : w.cell? ⟨w0.heap.size, 0, none⟩ = some (.int .i64 c.1)
  k1 : w.cell? ⟨w0.heap.size, 1, none⟩ = some (.int .i64 c.2.1)
  k2 : w.cell? ⟨w0.heap.size, 2, none⟩ = some (.int .i64 c.2.2)
  tb : Blk w (w0.heap.size + 1) 54 zeroT
  p0 : w.cell? ⟨w0.heap.size + 2, 0, none⟩ = some (.pointer none)
  p1 : w.cell? ⟨w0.heap.size + 2, 1, none⟩ = some (.pointer (some ⟨w0.heap.size + 1, 0, none⟩))
  bel : Below w0.heap.size w0 w
theorem NB.drew_ {w0 w : World} {c : Key} (h : NB w0 c w) : NB w0 c w.drew := ⟨h.lt, h.k0, h.k1, h.k2, h.tb, h.p0, h.p1, h.bel.drew⟩
theorem NB.below {w0 w w' : World} {c : Key} (h : NB w0 c w) (hb : Below w.heap.size w w') : NB w0 c w' :=
  have l0 : w0.heap.size < w.heap.size := by have := h.lt; omega
  have l1 : w0.heap.size + 1 < w.heap.size := by have := h.lt; omega
  ⟨Nat.lt_of_lt_of_le h.lt hb.size, (hb.cell (p := ⟨_, 0, none⟩) l0).trans h.k0, (hb.cell (p := ⟨_, 1, none⟩) l0).trans h.k1, (hb.cell (p := ⟨_, 2, none⟩) l0).trans h.k2, h.tb.below hb l1,
    (hb.cell (p := ⟨w0.heap.size + 2, 0, none⟩) h.lt).trans h.p0, (hb.cell (p := ⟨w0.heap.size + 2, 1, none⟩) h.lt).trans h.p1, h.bel.trans (hb.mono h.bel.size)⟩
def Two (w0 : World) (a : Option Addr) : Prop := a = none ∨ a = some ⟨w0.heap.size + 1, 0, none⟩
theorem NB.nob {w0 w : World} {c : Key} {a : Option Addr} (h : NB w0 c w) (ha : Two w0 a) : Nob a w := ha.elim .inl fun e => .inr ⟨_, e, h.tb⟩
theorem nbget {w0 : World} {c : Key} {a : Option Addr} (ha : Two w0 a) (w : World) (h : NB w0 c w) : Calls Try.prog 18 #[.pointer a, .agg #[.int .i64 c.1, .int .i64 c.2.1, .int .i64 c.2.2]] w fun e w' => e = .returned (.tuple #[.int .i64 0, .int .i64 1]) ∧ NB w0 c w' := (nob_get w a c (h.nob ha)).mono fun _ _ hh => ⟨hh.1, h.below hh.2⟩
theorem nbput {w0 : World} {c : Key} {a : Option Addr} (ha : Two w0 a) (v : Int) (w : World) (h : NB w0 c w) : Calls Try.prog 17 #[.pointer a, .agg #[.int .i64 c.1, .int .i64 c.2.1, .int .i64 c.2.2], .int .i64 v] w fun e w' => e = .returned (.int .i64 1) ∧ NB w0 c w' := (nob_put w a c v (h.nob ha)).mono fun _ _ hh => ⟨hh.1, h.below hh.2⟩
theorem nbdrop {w0 : World} {c : Key} {a : Option Addr} (ha : Two w0 a) (w : World) (h : NB w0 c w) : Calls Try.prog 21 #[.pointer a, .agg #[.int .i64 c.1, .int .i64 c.2.1, .int .i64 c.2.2]] w fun e w' => e = .returned (.bool false) ∧ NB w0 c w' := (nob_drop w a c (h.nob ha)).mono fun _ _ hh => ⟨hh.1, h.below hh.2⟩
theorem nblen {w0 : World} {c : Key} {a : Option Addr} (ha : Two w0 a) (w : World) (h : NB w0 c w) : Calls Try.prog 19 #[.pointer a] w fun e w' => e = .returned (.int .i64 0) ∧ NB w0 c w' := (nob_len w a (h.nob ha)).mono fun _ _ hh => ⟨hh.1, h.below hh.2⟩
theorem nbclear {w0 : World} {c : Key} {a : Option Addr} (ha : Two w0 a) (w : World) (h : NB w0 c w) : Calls Try.prog 20 #[.pointer a] w fun e w' => e = .returned (.int .i64 1) ∧ NB w0 c w' := (nob_clear w a (h.nob ha)).mono fun _ _ hh => ⟨hh.1, h.below hh.2⟩
set_option maxHeartbeats 400000 in
theorem hashNobody_walk (w : World) (c : Key) (v : Int) : Calls Try.prog 8 #[.agg #[.int .i64 c.1, .int .i64 c.2.1, .int .i64 c.2.2], .int .i64 v] w (Fine w) := by
  go_enter Try.func8, Try.ntmps8
  go_wp2_with fail
  have HAW := Lib.hid awake02
  go_loopg [6] 2 (fun m x wr => ∃ k : Nat, m + k = 2 ∧ x = .int .i64 (k : Int) ∧ NB w c wr)
  case atStart =>
    have e2 : ((w.alloc (.cells #[.int .i64 c.1, .int .i64 c.2.1, .int .i64 c.2.2] 26)).alloc (.cells #[.slice none 0 0, .int .i64 0, .int .i64 0] 54)).heap.size = w.heap.size + 2 := by simp
    have e1 : (w.alloc (.cells #[.int .i64 c.1, .int .i64 c.2.1, .int .i64 c.2.2] 26)).heap.size = w.heap.size + 1 := by simp
    have b0 := ((Blk.new_ w 26 #[.int .i64 c.1, .int .i64 c.2.1, .int .i64 c.2.2]).alloc_ (.cells #[.slice none 0 0, .int .i64 0, .int .i64 0] 54)).alloc_ (.cells #[.pointer none, .pointer (some ⟨w.heap.size + 1, 0, none⟩)] 23)
    have b1 := (Blk.new_ (w.alloc (.cells #[.int .i64 c.1, .int .i64 c.2.1, .int .i64 c.2.2] 26)) 54 #[.slice none 0 0, .int .i64 0, .int .i64 0]).alloc_ (.cells #[.pointer none, .pointer (some ⟨w.heap.size + 1, 0, none⟩)] 23)
    have b2 := Blk.new_ ((w.alloc (.cells #[.int .i64 c.1, .int .i64 c.2.1, .int .i64 c.2.2] 26)).alloc (.cells #[.slice none 0 0, .int .i64 0, .int .i64 0] 54)) 23 #[.pointer none, .pointer (some ⟨w.heap.size + 1, 0, none⟩)]
    rw [e1] at b1
    rw [e2] at b2
    exact ⟨0, rfl, rfl, ⟨by simp, b0.cell 0, b0.cell 1, b0.cell 2, b1, b2.cell 0, b2.cell 1, (((Below.refl _ _).alloc (Nat.le_refl _) _).alloc (by simp) _).alloc (by simp; omega) _⟩⟩
  case round =>
    obtain ⟨k, hmk, rfl, hN⟩ := hrel
    have HM := Lib.hid hmk; have HN := Lib.hid hN; clear hmk hN
    by_cases hk : k < 2
    · obtain ⟨a, ha, hpa⟩ : ∃ a, Two w a ∧ ∀ w', NB w c w' → w'.cell? ⟨w.heap.size + 2, k, none⟩ = some (.pointer a) := by
        have : k = 0 ∨ k = 1 := by omega
        rcases this with rfl | rfl
        · exact ⟨_, .inl rfl, fun w' h => h.p0⟩
        · exact ⟨_, .inr rfl, fun w' h => h.p1⟩
      have HA := Lib.hid ha; clear ha
      have HK : Hid (∀ w', NB w c w' → w'.cell? ⟨w.heap.size, 0, none⟩ = some (.int .i64 c.1) ∧ w'.cell? ⟨w.heap.size, 1, none⟩ = some (.int .i64 c.2.1) ∧ w'.cell? ⟨w.heap.size, 2, none⟩ = some (.int .i64 c.2.2) ∧ w'.cell? ⟨w.heap.size + 2, k, none⟩ = some (.pointer a)) := fun w' h => ⟨h.k0, h.k1, h.k2, hpa w' h⟩
      clear hpa
      go_wp2_with fail
      go_region_held3 (fun w' => w'.cell? ⟨w.heap.size, 0, none⟩ = some (.int .i64 c.1) ∧ w'.cell? ⟨w.heap.size, 1, none⟩ = some (.int .i64 c.2.1) ∧ w'.cell? ⟨w.heap.size, 2, none⟩ = some (.int .i64 c.2.2) ∧ w'.cell? ⟨w.heap.size + 2, k, none⟩ = some (.pointer a))
        (first | with_reducible exact HK.out _ hN3 | with_reducible exact HK.out _ HN.out.drew_) (first | (go_at_call 18; ((with_reducible refine (nbget HA.out _ HN.out.drew_).mono ?_); rintro e w3 ⟨rfl, hN3⟩)))
      have HN3 := Lib.hid hN3; clear hN3
      go_wp2_with fail
      go_region_held3 (fun w' => w'.cell? ⟨w.heap.size, 0, none⟩ = some (.int .i64 c.1) ∧ w'.cell? ⟨w.heap.size, 1, none⟩ = some (.int .i64 c.2.1) ∧ w'.cell? ⟨w.heap.size, 2, none⟩ = some (.int .i64 c.2.2) ∧ w'.cell? ⟨w.heap.size + 2, k, none⟩ = some (.pointer a))
        (first | with_reducible exact HK.out _ hN7 | with_reducible exact HK.out _ hN6 | with_reducible exact HK.out _ hN5 | with_reducible exact HK.out _ hN4 | with_reducible exact HK.out _ HN3.out.drew_) (first | (go_at_call 17; ((with_reducible refine (nbput HA.out v _ HN3.out.drew_).mono ?_); rintro e w4 ⟨rfl, hN4⟩)) | (go_at_call 21; ((with_reducible refine (nbdrop HA.out _ hN4).mono ?_); rintro e w5 ⟨rfl, hN5⟩)) | (go_at_call 19; ((with_reducible refine (nblen HA.out _ hN5).mono ?_); rintro e w6 ⟨rfl, hN6⟩)) | (go_at_call 20; ((with_reducible refine (nbclear HA.out _ hN6).mono ?_); rintro e w7 ⟨rfl, hN7⟩)))
      have HN7 := Lib.hid hN7; clear hN7 hN4 hN5 hN6
      go_wp2_with fail
      go_roundg (2 - (k + 1))
      case measure => have := HM.out; omega
      case rel => exact ⟨k + 1, by omega, by go_num, HN7.out⟩
    · have hge : 2 ≤ k := by omega
      go_wp2_with fail
      refine (HAW.out _).mono ?_
      rintro e w4 ⟨rfl, hb4⟩
      have HB4 := Lib.hid (HN.out.bel.trans (hb4.mono HN.out.bel.size))
      clear hb4
      go_wp2_with fail
      go_ret
      exact ⟨rfl, HB4.out⟩
end Go.Proofs.Ytdalnhhenahcjaa

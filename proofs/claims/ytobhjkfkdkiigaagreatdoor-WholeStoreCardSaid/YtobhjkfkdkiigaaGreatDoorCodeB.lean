/- WholeStore in plain Lean: four domains of four values as variables (atN), what a tuple says (tupG), rows as a set (setG). 
 Layer 8 in memory: a code of the four domains (CodeAt); slices.IndexFunc, has, Vars, Quan. 
 Layer 8: has, Vars of domains that there are. -/
import Derived.Test.YtobhjkfkdkiigaaGreatDoorLayC
import Derived.Test.YtobhjkfkdkiigaaGreatDoorQuanV
import Derived.BigQuiet
namespace Go.Proofs.YtobhjkfkdkiigaaGreatDoor
open Go.RowKit HP NP LY
abbrev dnm (c : UInt8) : ByteArray := ⟨#[c]⟩
def d4 : List Dm := [⟨dnm 65, 4⟩, ⟨dnm 66, 4⟩, ⟨dnm 67, 4⟩, ⟨dnm 68, 4⟩]
def ord4 : ByteArray := ⟨#[65, 42, 66, 95, 67, 42, 68]⟩
def gs4 : List (List Nat) := [[0, 1], [2, 3]]
/-- the variables of a domain, the lowest bit first -/
def atN : Nat → List Nat
  | 0 => [2, 0]
  | 1 => [3, 1]
  | 2 => [6, 4]
  | 3 => [7, 5]
  | _ => []
theorem d4_may : mayB d4 = true := by decide +kernel
theorem d4_ord : OrderIs d4 ord4.data.toList gs4 := ⟨by decide +kernel, by decide, by decide, by decide⟩
theorem d4_rows : ((List.range d4.length).map fun k => zN (rowP d4 gs4 k)) = [zN (atN 0), zN (atN 1), zN (atN 2), zN (atN 3)] := by decide +kernel
theorem d4_bits : allW d4 = 8 := by decide +kernel
end Go.Proofs.YtobhjkfkdkiigaaGreatDoor

namespace Go.Proofs.YtobhjkfkdkiigaaGreatDoor
open Go.RowKit HP NP LY
def at4 : List (List Int) := [zN (atN 0), zN (atN 1), zN (atN 2), zN (atN 3)]
/-- block cb is a code of the four domains -/
def CodeAt (w : World) (cb qn : Nat) : Prop := ∃ da dc aa ac, Blk w cb 93 #[.pointer (some ⟨qn, 0, none⟩), .slice da 4 dc, .slice aa 4 ac] ∧ (Cells w da (d4.flatMap domCells) ∧ TB w da 37) ∧ RowsT w aa at4
theorem CodeAt.kb {T : TypeId → Bool} {w w' : World} {cb qn : Nat} (h : CodeAt w cb qn) (hk : Kb T w w') (h1 : T 93 = false) (h2 : T 37 = false) (h3 : T 3 = false) (h4 : T 45 = false) : CodeAt w' cb qn := by
  obtain ⟨da, dc, aa, ac, a, b, c⟩ := h
  exact ⟨da, dc, aa, ac, hk _ _ _ a h1, ⟨b.1.kb b.2 hk h2, b.2.kb hk h2⟩, c.kb hk h3 h4⟩
theorem CodeAt.below {w w' : World} {cb qn : Nat} (h : CodeAt w cb qn) (hb : Below w.heap.size w w') : CodeAt w' cb qn := h.kb (T := fun _ => false) (Kp.of_below (B := 0) hb).kb rfl rfl rfl rfl
theorem CodeAt.tn {B : Nat} {w w' : World} {cb qn : Nat} (h : CodeAt w cb qn) (hk : Kp TO B w w') : CodeAt w' cb qn := h.kb hk.kb rfl rfl rfl rfl
theorem CodeAt.cell {w : World} {cb qn : Nat} (h : CodeAt w cb qn) : ∃ da dc aa ac, w.cell? ⟨cb, 0, none⟩ = some (.pointer (some ⟨qn, 0, none⟩)) ∧ w.cell? ⟨cb, 1, none⟩ = some (.slice da 4 dc) ∧ w.cell? ⟨cb, 2, none⟩ = some (.slice aa 4 ac) ∧ cb < w.heap.size := by
  obtain ⟨da, dc, aa, ac, a, _, _⟩ := h
  exact ⟨da, dc, aa, ac, a.cell 0, a.cell 1, a.cell 2, a.lt⟩
theorem at4_get {d : Nat} (hd : d < 4) : at4[d]? = some (zN (atN d)) := by
  rcases (by omega : d = 0 ∨ d = 1 ∨ d = 2 ∨ d = 3) with rfl | rfl | rfl | rfl <;> rfl
theorem atN_len {d : Nat} (hd : d < 4) : (atN d).length = 2 := by
  rcases (by omega : d = 0 ∨ d = 1 ∨ d = 2 ∨ d = 3) with rfl | rfl | rfl | rfl <;> rfl
theorem d4_get {d : Nat} (hd : d < 4) : ∃ n, d4[d]? = some ⟨n, 4⟩ := by
  rcases (by omega : d = 0 ∨ d = 1 ∨ d = 2 ∨ d = 3) with rfl | rfl | rfl | rfl <;> exact ⟨_, rfl⟩
/-- a domain's size, its variables -/
theorem CodeAt.dom {w : World} {cb qn d : Nat} (h : CodeAt w cb qn) (hd : d < 4) : ∃ db doff dc ab aoff ac ad cap, w.cell? ⟨cb, 0, none⟩ = some (.pointer (some ⟨qn, 0, none⟩)) ∧ w.cell? ⟨cb, 1, none⟩ = some (.slice (some ⟨db, doff, none⟩) 4 dc) ∧ w.cell? ⟨cb, 2, none⟩ = some (.slice (some ⟨ab, aoff, none⟩) 4 ac) ∧ cb < w.heap.size ∧
    db < w.heap.size ∧ w.cell? ⟨db, doff + d * 2 + 1, none⟩ = some (.int .i64 4) ∧ ab < w.heap.size ∧ w.cell? ⟨ab, aoff + d, none⟩ = some (.slice ad 2 cap) ∧ CellsT w ad (zV (zN (atN d))) := by
  obtain ⟨da, dc, aa, ac, a, b, c⟩ := h
  obtain ⟨n, hn⟩ := d4_get hd
  obtain ⟨db, doff, rfl, hdb, _, h1⟩ := b.1.dom hn
  obtain ⟨ab, aoff, ad, cap, rfl, hab, h2, h3, _⟩ := c.at_ (at4_get hd)
  rw [zN_len, atN_len hd] at h2
  exact ⟨db, doff, dc, ab, aoff, ac, ad, cap, a.cell 0, a.cell 1, a.cell 2, a.lt, hdb, h1, hab, h2, h3⟩
/-! ### slices.IndexFunc of a closure -/
def ixP (p : Int → Bool) (l : List Int) : Int := if l.findIdx p < l.length then (l.findIdx p : Int) else -1
theorem ixP_at {p : Int → Bool} {l : List Int} {k : Nat} {x : Int} (hk : l[k]? = some x) (hp : p x = true) (hb : ∀ j y, j < k → l[j]? = some y → p y = false) : ixP p l = (k : Int) := by
  have hkl : k < l.length := (List.getElem?_eq_some_iff.1 hk).1
  have e : l.findIdx p = k := by
    rw [List.findIdx_eq hkl]
    refine ⟨?_, fun j hj => ?_⟩
    · rw [(List.getElem?_eq_some_iff.1 hk).2]; exact hp
    · exact hb j _ hj (List.getElem?_eq_getElem (by omega))
  unfold ixP
  rw [e, if_pos hkl]
theorem ixP_no {p : Int → Bool} {l : List Int} (hb : ∀ y ∈ l, p y = false) : ixP p l = -1 := by
  unfold ixP
  rw [if_neg]
  rw [List.findIdx_lt_length]
  rintro ⟨x, hx, hp⟩
  rw [hb x hx] at hp; cases hp
set_option maxRecDepth 100000 in
set_option maxHeartbeats 1600000 in
theorem ixf_ok (w : World) (a : Option Addr) (l : List Int) (c fid : Nat) (caps : Array Value) (p : Int → Bool) (hl : l.length ≤ maxLen) (hc : Cells w a (zV l))
    (hen : ∀ (args : Array Value) (w : World), (callFunc fid args).run Tryz.prog w = .ok (.enter fid args) w)
    (hcall : ∀ (W : World) (x : Int), Below w.heap.size w W → x ∈ l → Calls Tryz.prog fid (#[.int .i64 x] ++ caps) W fun e w' => e = .returned (.bool (p x)) ∧ Below W.heap.size W w') :
    Calls Tryz.prog 67 #[.slice a l.length c, .func (.func fid) #[] caps] w fun e w' => e = .returned (.int .i64 (ixP p l)) ∧ Below w.heap.size w w' := by
  have HC := Lib.hid hc; have HCL := Lib.hid hcall
  have HEN : Hid (∀ (args : Array Value) (w : World), (callFunc fid args).run Tryz.prog w = .ok (.enter fid args) w) := Lib.hid hen
  obtain ⟨N, hN⟩ : ∃ N, N = l.length := ⟨_, rfl⟩
  have HN := Lib.hid hN
  rw [← hN] at hl
  have hlm : N ≤ 9223372036854775807 := by unfold maxLen at hl; omega
  rw [← hN]
  clear hc hcall hN hl hen
  go_enter Tryz.func67, Tryz.ntmps67
  go_wp2_with fail
  go_loopg [8] N (fun m x wr => ∃ k : Nat, m + k = N ∧ x = .int .i64 (k : Int) ∧ (∀ j y, j < k → l[j]? = some y → p y = false) ∧ Below w.heap.size w wr)
  case atStart => exact ⟨0, rfl, rfl, fun j _ hj => absurd hj (Nat.not_lt_zero j), Below.refl _ _⟩
  case round =>
    obtain ⟨k, hm, rfl, hno, hb⟩ := hrel
    have HM := Lib.hid hm; have HNO := Lib.hid hno; have HB := Lib.hid hb
    clear hm hno hb
    by_cases hk : k < N
    · obtain ⟨x, hx⟩ : ∃ x, l[k]? = some x := ⟨_, List.getElem?_eq_getElem (by rw [← HN.out]; exact hk)⟩
      obtain ⟨b, off, rfl, hbl, x0⟩ := HC.out.at_ (show (zV l)[k]? = some (.int .i64 x) by unfold zV; rw [List.getElem?_map, hx]; rfl)
      have x0' : wr.cell? ⟨b, off + k, none⟩ = some (.int .i64 x) := (HB.out.cell (p := ⟨b, _, none⟩) hbl).trans x0
      have hbl' : b < wr.heap.size := Nat.lt_of_lt_of_le hbl HB.out.size
      have HX := Lib.hid hx
      have HL := Lib.hid (HCL.out wr x HB.out (List.mem_of_getElem? hx))
      have hen := HEN.out
      clear hx x0
      go_wp2_with fail
      clear hen
      refine HL.out.mono ?_
      rintro e w2 ⟨rfl, hb2⟩
      have HB2 := Lib.hid (HB.out.trans (hb2.mono HB.out.size))
      cases hp : p x with
      | true =>
        have HP := Lib.hid (ixP_at HX.out hp HNO.out)
        clear hp hb2 x0' hbl'
        go_wp2_with fail
        go_ret
        exact ⟨by rw [HP.out]; rfl, HB2.out⟩
      | false =>
        have HP := Lib.hid hp
        clear hp hb2 x0' hbl'
        go_wp2_with fail
        go_roundg (N - (k + 1))
        case measure => have := HM.out; omega
        case rel =>
          refine ⟨k + 1, by have := HM.out; omega, by go_num, fun j y hj hy => ?_, HB2.out⟩
          by_cases e : j = k
          · subst e
            rw [HX.out] at hy
            injection hy with hy
            rw [← hy]; exact HP.out
          · exact HNO.out j y (by omega) hy
    · have hkN : k = N := by have := HM.out; omega
      have HP := Lib.hid (ixP_no (p := p) (l := l) fun y hy => by
        obtain ⟨j, hj, rfl⟩ := List.getElem_of_mem hy
        exact HNO.out j _ (by rw [hkN, HN.out]; exact hj) (List.getElem?_eq_getElem hj))
      have hge : N ≤ k := by omega
      clear hk hkN
      go_wp2_with fail
      go_ret
      exact ⟨by rw [HP.out]; rfl, HB.out⟩
theorem call_has (args : Array Value) (w : World) : (callFunc 93 args).run Tryz.prog w = .ok (.enter 93 args) w := MuLone.run_callFunc_enter Tryz.func93 (by kernel_rfl) rfl args w
def inD (z : Int) : Bool := decide (0 ≤ z) && decide (z < 4)
set_option maxRecDepth 100000 in
set_option maxHeartbeats 1600000 in
theorem has1_ok (w : World) (cb qn h : Nat) (hc : CodeAt w cb qn) (hb : Blk w h 33 #[.pointer (some ⟨cb, 0, none⟩)]) (d : Nat) (hd : d < 4) :
    Calls Tryz.prog 93 #[.int .i64 (d : Int), .pointer (some ⟨h, 0, none⟩)] w fun e w' => e = .returned (.bool false) ∧ Below w.heap.size w w' := by
  obtain ⟨da, dc, aa, ac, c0, c1, c2, cl⟩ := hc.cell
  have b0 : w.cell? ⟨h, 0, none⟩ = some (.pointer (some ⟨cb, 0, none⟩)) := hb.cell 0
  have bl := hb.lt
  have d1 : decide ((4 : Int) ≤ (d : Int)) = false := decide_eq_false (by omega)
  have d2 : decide (4 ≤ d) = false := decide_eq_false (by omega)
  clear hc hb hd
  go_enter Tryz.func93, Tryz.ntmps93
  go_wp2_with fail
  go_ret
  exact ⟨rfl, Below.refl _ _⟩
end Go.Proofs.YtobhjkfkdkiigaaGreatDoor

namespace Go.Proofs.YtobhjkfkdkiigaaGreatDoor
open Go.RowKit HP NP LY
set_option maxRecDepth 100000 in
set_option maxHeartbeats 1600000 in
theorem cf_no (w : World) (a : Option Addr) (l : List Int) (c fid : Nat) (caps : Array Value) (hl : l.length ≤ maxLen) (hc : Cells w a (zV l))
    (hen : ∀ (args : Array Value) (w : World), (callFunc fid args).run Tryz.prog w = .ok (.enter fid args) w)
    (hcall : ∀ (W : World) (x : Int), Below w.heap.size w W → x ∈ l → Calls Tryz.prog fid (#[.int .i64 x] ++ caps) W fun e w' => e = .returned (.bool false) ∧ Below W.heap.size W w') :
    Calls Tryz.prog 92 #[.slice a l.length c, .func (.func fid) #[] caps] w fun e w' => e = .returned (.bool false) ∧ Below w.heap.size w w' := by
  have HI := Lib.hid (ixf_ok w a l c fid caps (fun _ => false) hl hc hen hcall)
  rw [ixP_no (fun _ _ => rfl)] at HI
  obtain ⟨N, hN⟩ : ∃ N, l.length = N := ⟨_, rfl⟩
  rw [hN] at HI ⊢
  clear hc hcall hl hen hN
  go_enter Tryz.func92, Tryz.ntmps92
  go_wp2_with fail
  refine HI.out.mono ?_
  rintro e w1 ⟨rfl, hb⟩
  have HB := Lib.hid hb
  clear hb
  go_wp2_with fail
  go_ret
  exact ⟨rfl, HB.out⟩
theorem zN_mem {ds : List Nat} {x : Int} (h : x ∈ zN ds) : ∃ d : Nat, d ∈ ds ∧ x = (d : Int) := by
  unfold zN at h
  obtain ⟨d, hd, rfl⟩ := List.mem_map.1 h
  exact ⟨d, hd, rfl⟩
theorem app1 (a b : Value) : (#[a] ++ #[b] : Array Value) = #[a, b] := rfl
set_option maxRecDepth 100000 in
set_option maxHeartbeats 1600000 in
theorem has_ok (w : World) (cb qn : Nat) (hc : CodeAt w cb qn) (a : Option Addr) (ds : List Nat) (c : Nat) (hl : ds.length ≤ 32) (hd : ∀ d ∈ ds, d < 4) (hcs : Cells w a (zV (zN ds))) :
    Calls Tryz.prog 66 #[.pointer (some ⟨cb, 0, none⟩), .slice a ds.length c] w fun e w' => e = .returned (.bool true) ∧ Below w.heap.size w w' := by
  have hal : Below w.heap.size w (w.alloc (.cells #[.pointer (some ⟨cb, 0, none⟩)] 33)) := (Below.refl _ _).alloc (Nat.le_refl _) _
  have hx := Blk.new_ w 33 #[.pointer (some ⟨cb, 0, none⟩)]
  have HCF := Lib.hid (cf_no (w.alloc (.cells #[.pointer (some ⟨cb, 0, none⟩)] 33)) a (zN ds) c 93 #[.pointer (some ⟨w.heap.size, 0, none⟩)] (by rw [zN_len]; unfold maxLen; omega) (hcs.below hal) call_has (fun W x hW hx' => by
    obtain ⟨d, hm, rfl⟩ := zN_mem hx'
    rw [app1]
    exact has1_ok W cb qn w.heap.size ((hc.below hal).below hW) (hx.below hW hx.lt) d (hd d hm)))
  rw [zN_len] at HCF
  have HAL := Lib.hid hal
  obtain ⟨N, hN⟩ : ∃ N, ds.length = N := ⟨_, rfl⟩
  rw [hN] at HCF ⊢
  have hmf : ∀ (fn : Fn) (first cap : Array Value) (w : World), (Instr.makeFunc fn first cap).run Tryz.prog w = .ok (.func fn first cap) w := fun _ _ _ _ => rfl
  clear hc hl hd hcs hal hx hN
  go_enter Tryz.func66, Tryz.ntmps66
  go_wp2_with fail
  refine HCF.out.mono ?_
  rintro e w1 ⟨rfl, hb⟩
  have HB := Lib.hid (HAL.out.trans (hb.mono HAL.out.size))
  clear hb hmf
  go_wp2_with fail
  go_ret
  exact ⟨rfl, HB.out⟩
/-! ### Vars -/
/-- the variables of domains -/
def vsD (ds : List Nat) : List Nat := ds.flatMap atN
theorem vsD_len {ds : List Nat} (h : ∀ d ∈ ds, d < 4) : (vsD ds).length = 2 * ds.length := by
  unfold vsD
  induction ds with
  | nil => rfl
  | cons d l ih => rw [List.flatMap_cons, List.length_append, atN_len (h d (by simp)), ih fun x hx => h x (List.mem_cons_of_mem _ hx), List.length_cons]; omega
theorem vsD_snoc {ds : List Nat} {k d : Nat} (hk : ds[k]? = some d) : vsD (ds.take (k + 1)) = vsD (ds.take k) ++ atN d := by
  unfold vsD
  rw [List.take_add_one, hk, List.flatMap_append]; simp
theorem zV_len (l : List Int) : (zV l).length = l.length := by unfold zV; rw [List.length_map]
theorem zV_ones (l : List Int) : ∀ u ∈ zV l, u.oneCell' = true := by
  intro u hu
  unfold zV at hu
  obtain ⟨z, _, rfl⟩ := List.mem_map.1 hu
  rfl
theorem zN_app (a b : List Nat) : zN (a ++ b) = zN a ++ zN b := by unfold zN; rw [List.map_append]
def seenD (ds : List Nat) (k : Nat) : Nat → Bool := fun j => decide (j ∈ ds.take k)
theorem seenD_set {ds : List Nat} {k d : Nat} (hk : ds[k]? = some d) : NP.setB (seenD ds k) d = seenD ds (k + 1) := by
  funext j
  unfold NP.setB seenD
  rw [List.take_add_one, hk]
  by_cases h1 : j ∈ ds.take k <;> by_cases h2 : j = d <;> simp [h1, h2]
theorem seenD_no {ds : List Nat} {k d : Nat} (hk : ds[k]? = some d) (hn : ds.Nodup) : seenD ds k d = false := by
  unfold seenD
  rw [decide_eq_false_iff_not]
  intro h
  have e : ds = ds.take k ++ (d :: ds.drop (k + 1)) := by
    have h2 := List.getElem?_eq_some_iff.1 hk
    obtain ⟨h3, h4⟩ := h2
    rw [← h4, ← List.drop_eq_getElem_cons h3, List.take_append_drop]
  rw [e, List.nodup_append] at hn
  exact hn.2.2 d h d (by simp) rfl
theorem setM_none : setM (fun _ => false) = fun _ => none := by funext l; unfold setM; split <;> simp
/-- what Vars gives -/
def VarsPost (ds : List Nat) (w : World) (e : Ending) (w' : World) : Prop := Below w.heap.size w w' ∧ ∃ a c, e = .returned (.tuple #[.slice a (vsD ds).length c, .int .i64 0]) ∧ CellsT w' a (zV (zN (vsD ds))) ∧ (vsD ds).length ≤ c ∧ c ≤ maxLen
theorem info_intC : (Tryz.prog.info? 3).map (fun i => (i.zero, i.size, i.bytes)) = some (some (.int .i64 0), 1, 8) := by kernel_rfl
set_option maxRecDepth 100000 in
set_option maxHeartbeats 3200000 in
theorem vars_ok (w : World) (cb qn : Nat) (hc : CodeAt w cb qn) (a : Option Addr) (ds : List Nat) (c : Nat) (hl : ds.length ≤ 4) (hd : ∀ d ∈ ds, d < 4) (hn : ds.Nodup) (hcs : Cells w a (zV (zN ds))) :
    Calls Tryz.prog 42 #[.pointer (some ⟨cb, 0, none⟩), .slice a ds.length c] w (VarsPost ds w) := by
  have HH := Lib.hid (has_ok w cb qn hc a ds c (by omega) hd hcs)
  have HC := Lib.hid hc; have HD := Lib.hid hd; have HN := Lib.hid hn; have HCS := Lib.hid hcs
  obtain ⟨da, dc, aa, ac, c0, c1, c2, cl⟩ := hc.cell
  obtain ⟨i0, hi0, hz0, hz1, hz2⟩ := info_parts info_intC
  obtain ⟨N, hNN⟩ : ∃ N, ds.length = N := ⟨_, rfl⟩
  have HNN := Lib.hid hNN
  rw [hNN] at HH hl ⊢
  have hmk := @run_makeMap Tryz.prog
  clear hc hd hn hcs hNN
  go_enter Tryz.func42, Tryz.ntmps42
  go_wp2_with fail
  refine HH.out.mono ?_
  rintro e w1 ⟨rfl, hb1⟩
  have HB1 := Lib.hid hb1
  clear hb1 c0 c1 c2 cl
  go_wp2_with fail
  obtain ⟨mb, hmb⟩ : ∃ mb, mb = w1.heap.size := ⟨_, rfl⟩
  have HMB := Lib.hid hmb
  have hal : Below w1.heap.size w1 (w1.alloc (.map #[] 0)) := (Below.refl _ _).alloc (Nat.le_refl _) _
  have HM0 : Hid (SetAt (w1.alloc (.map #[] 0)) mb 4 (fun _ => false)) := Lib.hid (by
    have e1 : cntS (fun _ => false) 4 = 0 := by unfold cntS; simp
    unfold SetAt
    rw [e1, setM_none, hmb]; exact MapAt.made _ _ _)
  have HAL := Lib.hid (HB1.out.trans (hal.mono HB1.out.size))
  have HSZ : Hid (mb + 1 = (w1.alloc (.map #[] 0)).heap.size ∧ w.heap.size ≤ mb) := Lib.hid ⟨by rw [hmb]; simp, by rw [hmb]; exact HB1.out.size⟩
  rw [← hmb]
  clear hmk hal hmb
  go_loopg [6, 33] N (fun m v x wr => ∃ (k : Nat) (oa : Option Addr) (oc : Nat), m + k = N ∧ x = .int .i64 (k : Int) ∧ v = .slice oa (2 * k) oc ∧ wr.ownsRow (mb + 1) 3 1 (.slice oa (2 * k) oc) (2 * k) (zV (zN (vsD (ds.take k)))) ∧ SetAt wr mb 4 (seenD ds k) ∧ Below w.heap.size w wr)
  case atStart =>
    refine ⟨0, none, 0, rfl, rfl, rfl, World.ownsRow_nil _ _ _ _, ?_, HAL.out⟩
    have e : seenD ds 0 = fun _ => false := by funext j; unfold seenD; simp
    rw [e]; exact HM0.out
  case round =>
    obtain ⟨k, oa, oc, hm, rfl, rfl, ho, hs, hb⟩ := hrel
    have HM := Lib.hid hm; have HO := Lib.hid ho; have HS := Lib.hid hs; have HB := Lib.hid hb
    clear hm ho hs hb
    by_cases hk : k < N
    · obtain ⟨d, hx⟩ : ∃ d, ds[k]? = some d := ⟨_, List.getElem?_eq_getElem (by rw [HNN.out]; exact hk)⟩
      have hd4 := HD.out d (List.mem_of_getElem? hx)
      obtain ⟨b, off, rfl, hbl, x0⟩ := HCS.out.at_ (show (zV (zN ds))[k]? = some (.int .i64 (d : Int)) by unfold zV zN; rw [List.getElem?_map, List.getElem?_map, hx]; rfl)
      have x0' : wr.cell? ⟨b, off + k, none⟩ = some (.int .i64 (d : Int)) := (HB.out.cell (p := ⟨b, _, none⟩) hbl).trans x0
      have hbl' : b < wr.heap.size := Nat.lt_of_lt_of_le hbl HB.out.size
      have hsn := seenD_no hx HN.out
      have hat : atF (setM (seenD ds k)) (.int .i64 (d : Int)) (.bool false) = .bool false := by unfold atF; rw [setM_at, hsn]; rfl
      have hns : (if (setM (seenD ds k) (.int .i64 (d : Int))).isSome then cntS (seenD ds k) 4 else cntS (seenD ds k) 4 + 1) = cntS (seenD ds k) 4 + 1 := by rw [setM_at, hsn]; rfl
      have hcm : cntS (seenD ds k) 4 < maxLen := by have := cntS_le (seenD ds k) 4; unfold maxLen; omega
      have HX := Lib.hid hx; have HD4 := Lib.hid hd4; have HSN := Lib.hid hsn; have HAT := Lib.hid hat; have HNS := Lib.hid hns; have HCM := Lib.hid hcm
      have HKEY := Lib.hid (keyI d (by omega))
      clear hx x0 hsn hat hns hcm
      have hsm : mb < wr.heap.size := MapAt.lt HS.out
      go_wp2_with (first | (at_lookup; refine wpList_mlook rfl (.tmp 37) (.tmp 38) 106 rfl 4 (Maps.int_keyed Tryz.underlying3) Tryz.underlying106 (zeroB _) rfl HS.out _ _ rfl HKEY.out ?_; rw [HAT.out]) | (at_mapUpdate; refine wpList_msetn rfl (.tmp 40) (.tmp 41) (.const (.bool true)) 106 rfl 4 (Maps.int_keyed Tryz.underlying3) Tryz.underlying106 rfl HS.out HCM.out _ (.bool true) _ rfl rfl HKEY.out _ HNS.out ?_))
      intro w2 hs2 hg2
      have HS2 : Hid (SetAt w2 mb 4 (seenD ds (k + 1))) := Lib.hid (by
        rw [← seenD_set HX.out]
        unfold SetAt
        rw [cntS_set hd4 HSN.out, ← setM_set]
        exact hs2)
      have hB2 : Below w.heap.size w w2 := HB.out.grown hg2 HB.out.size (fun j hj => by injection hj with hj; have := HSZ.out.2; omega)
      have HB2 := Lib.hid hB2
      have HO2 := Lib.hid (own_kb HO.out (MapAt.kb HS.out hg2 (fun _ => false)) rfl)
      obtain ⟨db, doff, dc', ab, aoff, ac', ad, cap, c0, c1, c2, cl, _, _, abl, a0, hrow⟩ := (HC.out.below hB2).dom hd4
      have HROW := Lib.hid hrow
      have hsz2 : mb + 1 ≤ w2.heap.size := MapAt.lt HS2.out
      clear hs2 hg2 hB2 x0' hbl' hrow
      have hvl : 2 * k + 2 ≤ 8 := by omega
      go_wp2_with (at_builtin; refine wpList_append_src rfl (.tmp 42) (.tmp 49) 45 rfl (mb + 1) 3 i0 (.int .i64 0) 1 8 Tryz.underlying45 hi0 hz0 hz1 hz2 rfl (by decide) (.slice oa (2 * k) oc) (2 * k) _ rfl HO2.out ad 2 cap (zV (zN (atN d))) rfl (by rw [zV_len, zN_len, atN_len hd4]) HROW.out.c (zV_ones _) (by unfold maxLen; omega) (by omega) hsz2 ?_)
      intro v3 w3 hown hg3 _
      obtain ⟨oa3, oc3, rfl⟩ := own_shape hown
      have e3 : zV (zN (vsD (ds.take k))) ++ zV (zN (atN d)) = zV (zN (vsD (ds.take (k + 1)))) := by rw [vsD_snoc HX.out, zN_app]; unfold zV; rw [List.map_append]
      rw [e3, show 2 * k + 2 = 2 * (k + 1) by omega] at hown
      have HO3 := Lib.hid hown
      have HB3 := Lib.hid (HB2.out.grown hg3 HB2.out.size (fun j hj => by have := (HO2.out.lt j hj).1; have := HSZ.out.2; omega))
      have HS3 : Hid (SetAt w3 mb 4 (seenD ds (k + 1))) := Lib.hid (MapAt.grown HS2.out hg3 (fun e => by have := (HO2.out.lt mb e.symm).1; omega))
      clear hown hg3 c0 c1 c2 cl abl a0
      go_wp2_with fail
      go_roundg (N - (k + 1))
      case measure => have := HM.out; omega
      case rel => exact ⟨k + 1, oa3, oc3, by have := HM.out; omega, by go_num, rfl, HO3.out, HS3.out, HB3.out⟩
    · have hkN : k = N := by have := HM.out; omega
      subst hkN
      have hl2 : (vsD ds).length = 2 * k := by rw [vsD_len HD.out, HNN.out]
      have HL2 := Lib.hid hl2
      have ht : ds.take k = ds := List.take_of_length_le (Nat.le_of_eq HNN.out)
      have HO' : Hid (wr.ownsRow (mb + 1) 3 1 (.slice oa (2 * k) oc) (2 * k) (zV (zN (vsD ds)))) := by have := HO.out; rw [ht] at this; exact Lib.hid this
      clear hl2 ht hk
      go_wp2_with fail
      go_ret2
      obtain ⟨oa', oc', he, h3, h4, h5⟩ := Cells.of_own HO'.out
      injection he with e1 _ e2
      subst e1 e2
      exact ⟨HB.out, oa, oc, by rw [HL2.out]; rfl, ⟨h5, own_tbV HO'.out⟩, by rw [HL2.out]; exact h3, h4⟩
end Go.Proofs.YtobhjkfkdkiigaaGreatDoor

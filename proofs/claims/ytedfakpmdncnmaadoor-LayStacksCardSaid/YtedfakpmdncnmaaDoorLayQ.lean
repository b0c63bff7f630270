/- Layer 7 in plain Lean: domains, when they may be, orders of domains, domains told in another order. -/
import Derived.Test.YtedfakpmdncnmaaDoorLayP
import Derived.Shelf.GgClosure.StringsIndexFunc
namespace Go.Proofs.YtedfakpmdncnmaaDoor.LY
open Go.Lib
structure Dm where
  name : ByteArray
  size : Int
def Dm.no : Dm := ⟨ByteArray.empty, 0⟩
instance : Inhabited Dm := ⟨Dm.no⟩
def oddR (R : Nat) : Bool := (decide (R < 97) || decide (122 < R)) && ((decide (R < 65) || decide (90 < R)) && (decide (R < 48) || decide (57 < R)))
def nameB (s : ByteArray) : Bool := decide (s.size ≠ 0) && (decide (s.size ≤ 16) && decide (idxFunc oddR true s < 0))
def okD (d : Dm) : Bool := decide (1 ≤ d.size) && (decide (d.size ≤ 1073741824) && nameB d.name)
def widD (d : Dm) : Nat := if (d.size - 1).toNat = 0 then 0 else (d.size - 1).toNat.log2 + 1
theorem widD_le {d : Dm} (h : okD d = true) : widD d ≤ 30 := by
  unfold okD at h
  rw [Bool.and_eq_true, Bool.and_eq_true, decide_eq_true_eq, decide_eq_true_eq] at h
  unfold widD
  split
  · omega
  · rename_i h0
    have := (Nat.log2_lt h0 (k := 30)).2 (by have : (2 : Nat) ^ 30 = 1073741824 := by decide
                                             omega)
    omega
def at_ (doms : List Dm) (k : Nat) : Dm := doms.getD k Dm.no
def hadB (doms : List Dm) (i : Nat) : Bool := (doms.take i).any fun x => decide (x.name = (at_ doms i).name)
def goodN (doms : List Dm) : Nat → Bool
  | 0 => true
  | i + 1 => goodN doms i && (okD (at_ doms i) && !hadB doms i)
def allW (doms : List Dm) : Nat := (doms.map widD).sum
def mayB (doms : List Dm) : Bool := goodN doms doms.length && (decide (allW doms ≤ 256) && decide (doms.length ≤ 32))
theorem at_eq {doms : List Dm} {i : Nat} {d : Dm} (h : doms[i]? = some d) : at_ doms i = d := by unfold at_; rw [List.getD_eq_getElem?_getD, h]; rfl
theorem at_get {doms : List Dm} {i : Nat} (h : i < doms.length) : doms[i]? = some (at_ doms i) := by
  have e := List.getElem?_eq_getElem h
  rw [at_eq e, e]
theorem good_iff {doms : List Dm} : ∀ i, i ≤ doms.length → (goodN doms i = true ↔ (∀ d ∈ doms.take i, okD d = true) ∧ ((doms.take i).map (·.name)).Nodup)
  | 0, _ => by simp [goodN]
  | i + 1, h => by
    have hg := at_get (doms := doms) (i := i) (by omega)
    have e : doms.take (i + 1) = doms.take i ++ [at_ doms i] := by rw [List.take_add_one, hg]; rfl
    have hh : hadB doms i = false ↔ (at_ doms i).name ∉ (doms.take i).map (·.name) := by
      unfold hadB
      rw [List.any_eq_false, List.mem_map]
      constructor
      · rintro h1 ⟨x, hx, hxe⟩; exact h1 x hx (by simpa using hxe)
      · intro h1 x hx hxe; exact h1 ⟨x, hx, by simpa using hxe⟩
    rw [goodN, Bool.and_eq_true, Bool.and_eq_true, good_iff i (by omega), Bool.not_eq_true', hh, e, List.map_append, List.nodup_append]
    constructor
    · rintro ⟨⟨h1, h2⟩, h3, h4⟩
      refine ⟨fun d hd => ?_, h2, by simp, fun a ha b hb => ?_⟩
      · rcases List.mem_append.1 hd with hd | hd
        · exact h1 d hd
        · rw [List.mem_singleton.1 hd]; exact h3
      · have : b = (at_ doms i).name := by simpa using hb
        rw [this]
        rintro rfl
        exact h4 ha
    · rintro ⟨h1, h2, _, h3⟩
      exact ⟨⟨fun d hd => h1 d (List.mem_append_left _ hd), h2⟩, h1 _ (by simp), fun hm => h3 _ hm _ (by simp) rfl⟩
theorem may_iff {doms : List Dm} : mayB doms = true ↔ (∀ d ∈ doms, okD d = true) ∧ (doms.map (·.name)).Nodup ∧ allW doms ≤ 256 ∧ doms.length ≤ 32 := by
  unfold mayB
  rw [Bool.and_eq_true, Bool.and_eq_true, good_iff _ (Nat.le_refl _), List.take_length, decide_eq_true_eq, decide_eq_true_eq, and_assoc]
theorem may_perm {a b : List Dm} (h : a.Perm b) : mayB a = mayB b := by
  have key : ∀ {a b : List Dm}, a.Perm b → mayB a = true → mayB b = true := fun {a b} h ha => by
    obtain ⟨h1, h2, h3, h4⟩ := may_iff.1 ha
    refine may_iff.2 ⟨fun d hd => h1 d (h.mem_iff.2 hd), (h.map _).nodup_iff.1 h2, ?_, by rw [← h.length_eq]; exact h4⟩
    unfold allW at h3 ⊢
    rw [← (h.map widD).sum_nat]; exact h3
  cases hb : mayB b with
  | true => exact key h.symm hb
  | false =>
    cases ha : mayB a with
    | true => rw [key h ha] at hb; cases hb
    | false => rfl
/-! ### orders -/
def nm (doms : List Dm) (k : Nat) : List UInt8 := (at_ doms k).name.data.toList
def wF (doms : List Dm) (k : Nat) : Nat := widD (at_ doms k)
structure OrderIs (doms : List Dm) (s : List UInt8) (gs : List (List Nat)) : Prop where
  txt : groupsT s = gs.map fun g => g.map (nm doms)
  lt : ∀ k ∈ gs.flatten, k < doms.length
  nod : gs.flatten.Nodup
  all : gs.flatten.length = doms.length
theorem nm_inj {doms : List Dm} (h : mayB doms = true) {j k : Nat} (hj : j < doms.length) (hk : k < doms.length) (e : nm doms j = nm doms k) : j = k := by
  obtain ⟨_, h2, _, _⟩ := may_iff.1 h
  have h3 : (at_ doms j).name = (at_ doms k).name := by
    unfold nm at e
    have : (at_ doms j).name.data = (at_ doms k).name.data := Array.toList_inj.1 e
    exact ByteArray.ext this
  have hl : (doms.map (·.name)).length = doms.length := List.length_map ..
  have := (List.getElem?_inj (l := doms.map (·.name)) (i := j) (j := k) (by rw [hl]; exact hj) h2).1 (by
    rw [List.getElem?_map, List.getElem?_map, at_get hj, at_get hk]
    show some (at_ doms j).name = some (at_ doms k).name
    rw [h3])
  exact this
theorem map_inj_on {α β : Type} {f : α → β} : ∀ {l m : List α}, (∀ x ∈ l, ∀ y ∈ m, f x = f y → x = y) → l.map f = m.map f → l = m
  | [], [], _, _ => rfl
  | [], _ :: _, _, h => by simp at h
  | _ :: _, [], _, h => by simp at h
  | x :: l, y :: m, hf, h => by
    rw [List.map_cons, List.map_cons, List.cons.injEq] at h
    rw [hf x (by simp) y (by simp) h.1, map_inj_on (fun a ha b hb => hf a (List.mem_cons_of_mem _ ha) b (List.mem_cons_of_mem _ hb)) h.2]
theorem OrderIs.uniq {doms : List Dm} {s : List UInt8} {gs gs' : List (List Nat)} (hm : mayB doms = true) (h : OrderIs doms s gs) (h' : OrderIs doms s gs') : gs = gs' := by
  refine map_inj_on (f := fun g => g.map (nm doms)) (fun g hg g' hg' e => ?_) (h.txt.symm.trans h'.txt)
  exact map_inj_on (fun x hx y hy e => nm_inj hm (h.lt x (List.mem_flatten.2 ⟨g, hg, hx⟩)) (h'.lt y (List.mem_flatten.2 ⟨g', hg', hy⟩)) e) e
/-- a domain's bits, the lowest first -/
def rowP (doms : List Dm) (gs : List (List Nat)) (k : Nat) : List Nat := ((outS (wF doms) 31 gs stZ).2 k).reverse
/-! ### told in another order -/
def sg (n t i : Nat) : Nat := if i + t < n then i + t else i + t - n
def rh (n t k : Nat) : Nat := if t ≤ k then k - t else k + n - t
theorem sg_lt {n t i : Nat} (ht : t < n) (hi : i < n) : sg n t i < n := by unfold sg; split <;> omega
theorem rh_lt {n t k : Nat} (ht : t < n) (hk : k < n) : rh n t k < n := by unfold rh; split <;> omega
theorem sg_rh {n t k : Nat} (ht : t < n) (hk : k < n) : sg n t (rh n t k) = k := by unfold sg rh; split <;> split <;> omega
theorem rh_sg {n t i : Nat} (ht : t < n) (hi : i < n) : rh n t (sg n t i) = i := by unfold sg rh; split <;> split <;> omega
theorem rh_inj {n t : Nat} (ht : t < n) {j k : Nat} (hj : j < n) (hk : k < n) (e : rh n t j = rh n t k) : j = k := by rw [← sg_rh ht hj, e, sg_rh ht hk]
theorem sg_mod {n t i : Nat} (hn : 0 < n) (hi : i < n) : (i + t) % n = sg n (t % n) i := by
  have ht := Nat.mod_lt t hn
  rw [Nat.add_mod, Nat.mod_eq_of_lt hi]
  obtain ⟨q, hq⟩ : ∃ q, t % n = q := ⟨_, rfl⟩
  rw [hq] at ht ⊢
  unfold sg
  split
  · exact Nat.mod_eq_of_lt (by omega)
  · rw [Nat.mod_eq_sub_mod (by omega)]; exact Nat.mod_eq_of_lt (by omega)
def rotL (doms : List Dm) (t : Nat) : List Dm := doms.drop t ++ doms.take t
theorem rotL_len (doms : List Dm) {t : Nat} (ht : t ≤ doms.length) : (rotL doms t).length = doms.length := by unfold rotL; rw [List.length_append, List.length_drop, List.length_take]; omega
theorem rotL_perm (doms : List Dm) (t : Nat) : (rotL doms t).Perm doms := by
  unfold rotL
  exact List.perm_append_comm.trans (by rw [List.take_append_drop])
theorem rotL_at {doms : List Dm} {t i : Nat} (ht : t < doms.length) (hi : i < doms.length) : (rotL doms t)[i]? = doms[sg doms.length t i]? := by
  unfold rotL sg
  by_cases h : i + t < doms.length
  · rw [if_pos h, List.getElem?_append_left (by rw [List.length_drop]; omega), List.getElem?_drop, Nat.add_comm]
  · rw [if_neg h, List.getElem?_append_right (by rw [List.length_drop]; omega), List.length_drop, List.getElem?_take, if_pos (by omega)]
    congr 1; omega
theorem rot_at {doms : List Dm} {t k : Nat} (ht : t < doms.length) (hk : k < doms.length) : at_ (rotL doms t) (rh doms.length t k) = at_ doms k := by
  unfold at_
  rw [List.getD_eq_getElem?_getD, rotL_at ht (rh_lt ht hk), sg_rh ht hk, ← List.getD_eq_getElem?_getD]
theorem rot_nm {doms : List Dm} {t k : Nat} (ht : t < doms.length) (hk : k < doms.length) : nm (rotL doms t) (rh doms.length t k) = nm doms k := by unfold nm; rw [rot_at ht hk]
theorem flat_map {α β : Type} (f : α → β) (gs : List (List α)) : (gs.map fun g => g.map f).flatten = gs.flatten.map f := by rw [List.map_flatten]
theorem nodup_on {α β : Type} {f : α → β} : ∀ {l : List α}, (∀ x ∈ l, ∀ y ∈ l, f x = f y → x = y) → l.Nodup → (l.map f).Nodup
  | [], _, _ => List.nodup_nil
  | x :: l, hf, h => by
    obtain ⟨h1, h2⟩ := List.nodup_cons.1 h
    rw [List.map_cons]
    refine List.nodup_cons.2 ⟨fun hm => ?_, nodup_on (fun a ha b hb => hf a (List.mem_cons_of_mem _ ha) b (List.mem_cons_of_mem _ hb)) h2⟩
    obtain ⟨y, hy, e⟩ := List.mem_map.1 hm
    exact h1 (by rw [← hf y (List.mem_cons_of_mem _ hy) x (by simp) e]; exact hy)
theorem OrderIs.rot {doms : List Dm} {s : List UInt8} {gs : List (List Nat)} {t : Nat} (ht : t < doms.length) (h : OrderIs doms s gs) : OrderIs (rotL doms t) s (gs.map fun g => g.map (rh doms.length t)) := by
  refine ⟨?_, fun k hk => ?_, ?_, ?_⟩
  · rw [h.txt, List.map_map]
    refine List.map_congr_left fun g hg => ?_
    show _ = (g.map (rh doms.length t)).map (nm (rotL doms t))
    rw [List.map_map]
    exact List.map_congr_left fun k hk => (rot_nm ht (h.lt k (List.mem_flatten.2 ⟨g, hg, hk⟩))).symm
  · rw [flat_map] at hk
    obtain ⟨j, hj, rfl⟩ := List.mem_map.1 hk
    rw [rotL_len doms (Nat.le_of_lt ht)]
    exact rh_lt ht (h.lt j hj)
  · rw [flat_map]
    exact nodup_on (fun x hx y hy e => rh_inj ht (h.lt x hx) (h.lt y hy) e) h.nod
  · rw [flat_map, List.length_map, rotL_len doms (Nat.le_of_lt ht)]; exact h.all
theorem OrderIs.back {doms : List Dm} {s : List UInt8} {gs : List (List Nat)} {t : Nat} (ht : t < doms.length) (h : OrderIs (rotL doms t) s gs) : OrderIs doms s (gs.map fun g => g.map (sg doms.length t)) := by
  have hl := rotL_len doms (Nat.le_of_lt ht)
  have hlt : ∀ k ∈ gs.flatten, k < doms.length := fun k hk => by have := h.lt k hk; omega
  refine ⟨?_, fun k hk => ?_, ?_, ?_⟩
  · rw [h.txt, List.map_map]
    refine List.map_congr_left fun g hg => ?_
    show _ = (g.map (sg doms.length t)).map (nm doms)
    rw [List.map_map]
    refine List.map_congr_left fun k hk => ?_
    have hk2 := hlt k (List.mem_flatten.2 ⟨g, hg, hk⟩)
    show nm (rotL doms t) k = nm doms (sg doms.length t k)
    rw [← rot_nm ht (sg_lt ht hk2), rh_sg ht hk2]
  · rw [flat_map] at hk
    obtain ⟨j, hj, rfl⟩ := List.mem_map.1 hk
    exact sg_lt ht (hlt j hj)
  · rw [flat_map]
    exact nodup_on (fun x hx y hy e => by rw [← rh_sg ht (hlt x hx), e, rh_sg ht (hlt y hy)]) h.nod
  · rw [flat_map, List.length_map, h.all, hl]
theorem row_rot {doms : List Dm} {s : List UInt8} {gs : List (List Nat)} {t : Nat} (ht : t < doms.length) (h : OrderIs doms s gs) {i : Nat} (hi : i < doms.length) : rowP (rotL doms t) (gs.map fun g => g.map (rh doms.length t)) i = rowP doms gs (sg doms.length t i) := by
  have hr := outS_rot (n := doms.length) (r := rh doms.length t) (w := wF doms) (w' := wF (rotL doms t)) (fun j k hj hk e => rh_inj ht hj hk e) (fun k hk => by unfold wF; rw [rot_at ht hk]) 31 gs (st := stZ) (st' := stZ) ⟨rfl, fun _ _ => rfl⟩ fun g hg k hk => h.lt k (List.mem_flatten.2 ⟨g, hg, hk⟩)
  unfold rowP
  rw [hr.at_ _ (sg_lt ht hi), rh_sg ht hi]
end Go.Proofs.YtedfakpmdncnmaaDoor.LY

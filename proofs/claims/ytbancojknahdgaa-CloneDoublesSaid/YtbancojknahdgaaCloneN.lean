/- clone.Number's memory in its last loops (NSt): counts, what edges add, the answer's box; and what its region of three makings leaves (BoxPost). -/
import Derived.Test.YtbancojknahdgaaCloneS
import Derived.Test.YtbancojknahdgaaArith
import Derived.WalkSpells
import Derived.Deep.DeepCutAuto
namespace Go.Proofs.Ytbancojknahdgaa
open Go.RowKit CP
def boxN : Array Value := #[.slice none 0 0, .slice none 0 0, .slice none 0 0, .slice none 0 0]
theorem boxA1 {w w8 : World} (hb : Below (w.alloc (.cells #[.slice none 0 0, .slice none 0 0, .slice none 0 0, .slice none 0 0] 27)).drew.heap.size (w.alloc (.cells #[.slice none 0 0, .slice none 0 0, .slice none 0 0, .slice none 0 0] 27)).drew w8) : Blk w8 w.heap.size 27 #[.slice none 0 0, .slice none 0 0, .slice none 0 0, .slice none 0 0] :=
  (Blk.new_ w 27 _).drew_.below hb (Blk.new_ w 27 _).lt
theorem boxA2 {w w8 : World} {o : Obj} (hb : Below ((w.alloc (.cells #[.slice none 0 0, .slice none 0 0, .slice none 0 0, .slice none 0 0] 27)).alloc o).drew.heap.size ((w.alloc (.cells #[.slice none 0 0, .slice none 0 0, .slice none 0 0, .slice none 0 0] 27)).alloc o).drew w8) : Blk w8 w.heap.size 27 #[.slice none 0 0, .slice none 0 0, .slice none 0 0, .slice none 0 0] :=
  ((Blk.new_ w 27 _).alloc_ o).drew_.below hb ((Blk.new_ w 27 _).alloc_ o).lt
theorem boxA3 {w w8 : World} {o : Obj} (hb : Below ((w.alloc o).alloc (.cells #[.slice none 0 0, .slice none 0 0, .slice none 0 0, .slice none 0 0] 27)).drew.heap.size ((w.alloc o).alloc (.cells #[.slice none 0 0, .slice none 0 0, .slice none 0 0, .slice none 0 0] 27)).drew w8) : Blk w8 (w.heap.size + 1) 27 #[.slice none 0 0, .slice none 0 0, .slice none 0 0, .slice none 0 0] := by
  have h := (Blk.new_ (w.alloc o) 27 #[.slice none 0 0, .slice none 0 0, .slice none 0 0, .slice none 0 0]).drew_
  have e : (w.alloc o).heap.size = w.heap.size + 1 := by simp
  rw [e] at h
  exact h.below hb h.lt
/-- what region 23 leaves: the answer's box, the copied edges, and zeros -/
def BoxPost (w7 : World) (N : Nat) (v1 : Value) (es : List (Int × Int × Int)) (x : Value) (wc : World) : Prop :=
  ∃ p ba ea2 ec2, x = .pointer (some ⟨p, 0, none⟩) ∧ Blk wc p 27 #[v1, .slice none 0 0, .slice ea2 N ec2, .slice (some ⟨ba, 0, none⟩) N N] ∧ Blk wc ba 3 (tabI N fun _ => 0) ∧ wc.ownsRow w7.heap.size 50 3 (.slice ea2 N ec2) N (es.flatMap keyCells) ∧ Below w7.heap.size w7 wc ∧ w7.heap.size ≤ p ∧ w7.heap.size ≤ ba
section
variable {w7 w8 : World} {N : Nat} {v1 : Value} {es : List (Int × Int × Int)} {oa : Option Addr} {oc : Nat}
abbrev OwnE (W w8 : World) (N : Nat) (es : List (Int × Int × Int)) (oa : Option Addr) (oc : Nat) : Prop := Below W.drew.heap.size W.drew w8 ∧ w8.ownsRow W.drew.heap.size 50 3 (.slice oa N oc) N (es.flatMap keyCells)
abbrev boxZ : Obj := .cells #[.slice none 0 0, .slice none 0 0, .slice none 0 0, .slice none 0 0] 27
theorem set4 {w : World} {b : Nat} {t : TypeId} {y0 y1 y2 y3 x0 x1 x2 x3 : Value} (h : Blk w b t #[y0, y1, y2, y3]) : Blk ((((w.setCell ⟨b, 0, none⟩ x0).setCell ⟨b, 1, none⟩ x1).setCell ⟨b, 2, none⟩ x2).setCell ⟨b, 3, none⟩ x3) b t #[x0, x1, x2, x3] := (((h.set_ 0 x0).set_ 1 x1).set_ 2 x2).set_ 3 x3
theorem al_size (w : World) (o : Obj) : (w.alloc o).heap.size = w.heap.size + 1 := by simp
theorem bw (w : World) (o : Obj) : Below w.heap.size w (w.alloc o).drew := ((Below.refl _ _).alloc (Nat.le_refl _) _).drew
theorem bw2 (w : World) (o q : Obj) : Below w.heap.size w ((w.alloc o).alloc q).drew := (((Below.refl _ _).alloc (Nat.le_refl _) _).alloc (by simp) _).drew
theorem bp1 (h : OwnE w7 w8 N es oa oc) : BoxPost w7 N v1 es (.pointer (some ⟨w8.heap.size + 1, 0, none⟩)) ((w8.alloc (.cells (tabI N fun _ => 0) 3)).alloc (.cells #[v1, .slice none 0 0, .slice oa N oc, .slice (some ⟨w8.heap.size, 0, none⟩) N N] 27)) := by
  obtain ⟨hb, hr⟩ := h
  have hs : w7.heap.size ≤ w8.heap.size := hb.size
  have k := Blk.new_ (w8.alloc (.cells (tabI N fun _ => 0) 3)) 27 #[v1, .slice none 0 0, .slice oa N oc, .slice (some ⟨w8.heap.size, 0, none⟩) N N]
  rw [al_size] at k
  exact ⟨_, _, _, _, rfl, k, (Blk.new_ w8 _ _).alloc_ _, own_base ((hr.alloc _).alloc _) (Nat.le_refl _), ((((Below.refl _ _).drew.trans hb).alloc hs _).alloc (by rw [al_size]; exact Nat.le_succ_of_le hs) _), Nat.le_succ_of_le hs, hs⟩
theorem bp2 (h : OwnE w7 w8 N es oa oc) : BoxPost w7 N v1 es (.pointer (some ⟨w8.heap.size, 0, none⟩)) ((w8.alloc (.cells #[v1, .slice none 0 0, .slice oa N oc, .slice (some ⟨w8.heap.size + 1, 0, none⟩) N N] 27)).alloc (.cells (tabI N fun _ => 0) 3)) := by
  obtain ⟨hb, hr⟩ := h
  have hs : w7.heap.size ≤ w8.heap.size := hb.size
  have k := Blk.new_ (w8.alloc (.cells #[v1, .slice none 0 0, .slice oa N oc, .slice (some ⟨w8.heap.size + 1, 0, none⟩) N N] 27)) 3 (tabI N fun _ => 0)
  rw [al_size] at k
  exact ⟨_, _, _, _, rfl, (Blk.new_ w8 _ _).alloc_ _, k, own_base ((hr.alloc _).alloc _) (Nat.le_refl _), ((((Below.refl _ _).drew.trans hb).alloc hs _).alloc (by rw [al_size]; exact Nat.le_succ_of_le hs) _), hs, Nat.le_succ_of_le hs⟩
theorem bp3 (h : OwnE (w7.alloc (.cells (tabI N fun _ => 0) 3)) w8 N es oa oc) : BoxPost w7 N v1 es (.pointer (some ⟨w8.heap.size, 0, none⟩)) (w8.alloc (.cells #[v1, .slice none 0 0, .slice oa N oc, .slice (some ⟨w7.heap.size, 0, none⟩) N N] 27)) := by
  obtain ⟨hb, hr⟩ := h
  have k := (Blk.new_ w7 3 (tabI N fun _ => 0)).drew_
  have hs : (w7.alloc (.cells (tabI N fun _ => 0) 3)).drew.heap.size ≤ w8.heap.size := hb.size
  have hs2 : w7.heap.size + 1 ≤ w8.heap.size := by rw [← al_size w7 (.cells (tabI N fun _ => 0) 3)]; exact hs
  exact ⟨_, _, _, _, rfl, Blk.new_ w8 _ _, (k.below hb k.lt).alloc_ _, own_base (hr.alloc _) (bw w7 _).size, ((bw w7 _).trans (hb.mono (bw w7 _).size)).alloc (by omega) _, by omega, Nat.le_refl _⟩
theorem bp4 (h : OwnE ((w7.alloc (.cells (tabI N fun _ => 0) 3)).alloc boxZ) w8 N es oa oc) : BoxPost w7 N v1 es (.pointer (some ⟨w7.heap.size + 1, 0, none⟩)) ((((w8.setCell ⟨w7.heap.size + 1, 0, none⟩ v1).setCell ⟨w7.heap.size + 1, 1, none⟩ (.slice none 0 0)).setCell ⟨w7.heap.size + 1, 2, none⟩ (.slice oa N oc)).setCell ⟨w7.heap.size + 1, 3, none⟩ (.slice (some ⟨w7.heap.size, 0, none⟩) N N)) := by
  obtain ⟨hb, hr⟩ := h
  have k1 := ((Blk.new_ w7 3 (tabI N fun _ => 0)).alloc_ boxZ).drew_
  have k2 := (Blk.new_ (w7.alloc (.cells (tabI N fun _ => 0) 3)) 27 #[.slice none 0 0, .slice none 0 0, .slice none 0 0, .slice none 0 0]).drew_
  rw [al_size] at k2
  replace k1 := k1.below hb k1.lt
  replace k2 := Blk.below k2 hb k2.lt
  have hne := own_ne_blk hr k2 (by decide)
  have hr2 := own_far (own_far (own_far (own_far hr (a := ⟨w7.heap.size + 1, 0, none⟩) (fun e => hne e.symm) v1) (a := ⟨w7.heap.size + 1, 1, none⟩) (fun e => hne e.symm) (.slice none 0 0)) (a := ⟨w7.heap.size + 1, 2, none⟩) (fun e => hne e.symm) (.slice oa N oc)) (a := ⟨w7.heap.size + 1, 3, none⟩) (fun e => hne e.symm) (.slice (some ⟨w7.heap.size, 0, none⟩) N N)
  exact ⟨_, _, _, _, rfl, set4 k2, (((k1.far (by simp) _).far (by simp) _).far (by simp) _).far (by simp) _, own_base hr2 (bw2 w7 _ _).size, ((((((bw2 w7 _ _).trans (hb.mono (bw2 w7 _ _).size)).setCell (by simp) _).setCell (by simp) _).setCell (by simp) _).setCell (by simp) _), by omega, Nat.le_refl _⟩
theorem bp5 (h : OwnE (w7.alloc boxZ) w8 N es oa oc) : BoxPost w7 N v1 es (.pointer (some ⟨w7.heap.size, 0, none⟩)) (((((w8.setCell ⟨w7.heap.size, 0, none⟩ v1).setCell ⟨w7.heap.size, 1, none⟩ (.slice none 0 0)).setCell ⟨w7.heap.size, 2, none⟩ (.slice oa N oc)).setCell ⟨w7.heap.size, 3, none⟩ (.slice (some ⟨w8.heap.size, 0, none⟩) N N)).alloc (.cells (tabI N fun _ => 0) 3)) := by
  obtain ⟨hb, hr⟩ := h
  have k2 := (Blk.new_ w7 27 #[.slice none 0 0, .slice none 0 0, .slice none 0 0, .slice none 0 0]).drew_
  replace k2 := Blk.below k2 hb k2.lt
  have hl := k2.lt
  have hne := own_ne_blk hr k2 (by decide)
  have hr2 := own_far (own_far (own_far (own_far hr (a := ⟨w7.heap.size, 0, none⟩) (fun e => hne e.symm) v1) (a := ⟨w7.heap.size, 1, none⟩) (fun e => hne e.symm) (.slice none 0 0)) (a := ⟨w7.heap.size, 2, none⟩) (fun e => hne e.symm) (.slice oa N oc)) (a := ⟨w7.heap.size, 3, none⟩) (fun e => hne e.symm) (.slice (some ⟨w8.heap.size, 0, none⟩) N N)
  have k3 := Blk.new_ ((((w8.setCell ⟨w7.heap.size, 0, none⟩ v1).setCell ⟨w7.heap.size, 1, none⟩ (.slice none 0 0)).setCell ⟨w7.heap.size, 2, none⟩ (.slice oa N oc)).setCell ⟨w7.heap.size, 3, none⟩ (.slice (some ⟨w8.heap.size, 0, none⟩) N N)) 3 (tabI N fun _ => 0)
  have es : ((((w8.setCell ⟨w7.heap.size, 0, none⟩ v1).setCell ⟨w7.heap.size, 1, none⟩ (.slice none 0 0)).setCell ⟨w7.heap.size, 2, none⟩ (.slice oa N oc)).setCell ⟨w7.heap.size, 3, none⟩ (.slice (some ⟨w8.heap.size, 0, none⟩) N N)).heap.size = w8.heap.size := by simp
  rw [es] at k3
  exact ⟨_, _, _, _, rfl, (set4 k2).alloc_ _, k3, own_base (hr2.alloc _) (bw w7 _).size, ((((((bw w7 _).trans (hb.mono (bw w7 _).size)).setCell (by simp) _).setCell (by simp) _).setCell (by simp) _).setCell (by simp) _).alloc (by rw [es]; omega) _, Nat.le_refl _, by omega⟩
theorem bp6 (h : OwnE ((w7.alloc boxZ).alloc (.cells (tabI N fun _ => 0) 3)) w8 N es oa oc) : BoxPost w7 N v1 es (.pointer (some ⟨w7.heap.size, 0, none⟩)) ((((w8.setCell ⟨w7.heap.size, 0, none⟩ v1).setCell ⟨w7.heap.size, 1, none⟩ (.slice none 0 0)).setCell ⟨w7.heap.size, 2, none⟩ (.slice oa N oc)).setCell ⟨w7.heap.size, 3, none⟩ (.slice (some ⟨w7.heap.size + 1, 0, none⟩) N N)) := by
  obtain ⟨hb, hr⟩ := h
  have k2 := ((Blk.new_ w7 27 #[.slice none 0 0, .slice none 0 0, .slice none 0 0, .slice none 0 0]).alloc_ (.cells (tabI N fun _ => 0) 3)).drew_
  have k1 := (Blk.new_ (w7.alloc boxZ) 3 (tabI N fun _ => 0)).drew_
  rw [al_size] at k1
  replace k1 := Blk.below k1 hb k1.lt
  replace k2 := Blk.below k2 hb k2.lt
  have hne := own_ne_blk hr k2 (by decide)
  have hr2 := own_far (own_far (own_far (own_far hr (a := ⟨w7.heap.size, 0, none⟩) (fun e => hne e.symm) v1) (a := ⟨w7.heap.size, 1, none⟩) (fun e => hne e.symm) (.slice none 0 0)) (a := ⟨w7.heap.size, 2, none⟩) (fun e => hne e.symm) (.slice oa N oc)) (a := ⟨w7.heap.size, 3, none⟩) (fun e => hne e.symm) (.slice (some ⟨w7.heap.size + 1, 0, none⟩) N N)
  exact ⟨_, _, _, _, rfl, set4 k2, (((k1.far (by simp) _).far (by simp) _).far (by simp) _).far (by simp) _, own_base hr2 (bw2 w7 _ _).size, ((((((bw2 w7 _ _).trans (hb.mono (bw2 w7 _ _).size)).setCell (by simp) _).setCell (by simp) _).setCell (by simp) _).setCell (by simp) _), Nat.le_refl _, by omega⟩
end
theorem own_low {w : World} {base e size n g : Nat} {v : Value} {xs : List Value} (h : w.ownsRow base e size v n xs) (hg : g < base) : some g ≠ v.ownBlock := fun he => by have := (h.lt g he.symm).1; omega
/-- the memory of the last loops -/
structure NSt (w5 wr : World) (m N bc p ba B : Nat) (v1 y v3 : Value) (ys : List Value) (es : List (Int × Int × Int)) (f g : Nat → Nat) : Prop where
  bel : Below w5.heap.size w5 wr
  cb : Blk wr bc 3 (tabI m f)
  ab : Blk wr ba 3 (tabI N g)
  pb : Blk wr p 27 #[v1, y, v3, .slice (some ⟨ba, 0, none⟩) N N]
  ed : wr.ownsRow w5.heap.size 50 3 v3 N (es.flatMap keyCells)
  row : wr.ownsRow B 3 1 y ys.length ys
  lc : w5.heap.size ≤ bc
  la : w5.heap.size ≤ ba
  lp : w5.heap.size ≤ p
  ne : bc ≠ ba
  cB : bc < B
  aB : ba < B
  Bw : B ≤ wr.heap.size
section
variable {w5 wr w' : World} {m N bc p ba B : Nat} {v1 y v3 : Value} {ys : List Value} {es : List (Int × Int × Int)} {f g : Nat → Nat}
theorem NSt.below (h : NSt w5 wr m N bc p ba B v1 y v3 ys es f g) (hb : Below wr.heap.size wr w') : NSt w5 w' m N bc p ba B v1 y v3 ys es f g :=
  ⟨h.bel.trans (hb.mono h.bel.size), h.cb.below hb h.cb.lt, h.ab.below hb h.ab.lt, h.pb.below hb h.pb.lt, own_below h.ed hb, own_below h.row hb, h.lc, h.la, h.lp, h.ne, h.cB, h.aB, Nat.le_trans h.Bw hb.size⟩
theorem NSt.storeC (h : NSt w5 wr m N bc p ba B v1 y v3 ys es f g) {c : Nat} (hc : c < m) (v : Nat) : NSt w5 (wr.setCell ⟨bc, c, none⟩ (.int .i64 (v : Int))) m N bc p ba B v1 y v3 ys es (fup f c v) g := by
  refine ⟨h.bel.setCell h.lc _, ?_, h.ab.far h.ne.symm _, h.pb.far (Blk.ne h.pb h.cb (by decide)) _, own_far h.ed (fun e => own_ne_blk h.ed h.cb (by decide) e.symm) _, own_far h.row (fun e => own_low h.row h.cB e.symm) _, h.lc, h.la, h.lp, h.ne, h.cB, h.aB, by simpa using h.Bw⟩
  have := h.cb.set_ c (.int .i64 (v : Int)); rw [tabI_set _ hc] at this; exact this
theorem NSt.storeA (h : NSt w5 wr m N bc p ba B v1 y v3 ys es f g) {c : Nat} (hc : c < N) (v : Nat) : NSt w5 (wr.setCell ⟨ba, c, none⟩ (.int .i64 (v : Int))) m N bc p ba B v1 y v3 ys es f (fup g c v) := by
  refine ⟨h.bel.setCell h.la _, h.cb.far h.ne _, ?_, h.pb.far (Blk.ne h.pb h.ab (by decide)) _, own_far h.ed (fun e => own_ne_blk h.ed h.ab (by decide) e.symm) _, own_far h.row (fun e => own_low h.row h.aB e.symm) _, h.lc, h.la, h.lp, h.ne, h.cB, h.aB, by simpa using h.Bw⟩
  have := h.ab.set_ c (.int .i64 (v : Int)); rw [tabI_set _ hc] at this; exact this
theorem NSt.grow (h : NSt w5 wr m N bc p ba B v1 y v3 ys es f g) {y' x : Value} {ad : Addr} (hown : w'.ownsRow B 3 1 y' (ys.length + 1) (ys ++ [x])) (hg : wr.grownBy w' y.ownBlock) (hB : w5.heap.size ≤ B) (hap : ad = ⟨p, 1, none⟩) : NSt w5 (w'.setCell ad y') m N bc p ba B v1 y' v3 (ys ++ [x]) es f g := by
  subst hap
  have kp := h.pb.grown hg (own_ne_blk h.row h.pb (by decide))
  have kc := h.cb.grown hg (own_low h.row h.cB)
  have ka := h.ab.grown hg (own_low h.row h.aB)
  have ke := h.ed.kept hg (own_ne_own h.ed h.row (by decide))
  refine ⟨(h.bel.grown hg h.bel.size (fun b hb => Nat.le_trans hB (h.row.lt b hb).1)).setCell h.lp _, kc.far (Blk.ne kc kp (by decide)) _, ka.far (Blk.ne ka kp (by decide)) _, kp.set_ 1 y', own_far ke (fun e => own_ne_blk ke kp (by decide) e.symm) _, ?_, h.lc, h.la, h.lp, h.ne, h.cB, h.aB, by simpa using Nat.le_trans h.Bw hg.size⟩
  rw [List.length_append]
  exact own_far hown (fun e => own_ne_blk hown kp (by decide) e.symm) _
end
theorem tabI_congr {n : Nat} {f g : Nat → Nat} (h : ∀ i, i < n → f i = g i) : tabI n f = tabI n g := by
  unfold tabI tabV
  congr 1
  exact List.map_congr_left fun i hi => by rw [h i (List.mem_range.1 hi)]
theorem NSt.congr {w5 wr : World} {m N bc p ba B : Nat} {v1 y v3 : Value} {ys : List Value} {es : List (Int × Int × Int)} {f g f' g' : Nat → Nat} (h : NSt w5 wr m N bc p ba B v1 y v3 ys es f g) (hf : ∀ i, i < m → f i = f' i) (hg : ∀ i, i < N → g i = g' i) : NSt w5 wr m N bc p ba B v1 y v3 ys es f' g' :=
  ⟨h.bel, by rw [← tabI_congr hf]; exact h.cb, by rw [← tabI_congr hg]; exact h.ab, h.pb, h.ed, h.row, h.lc, h.la, h.lp, h.ne, h.cB, h.aB, h.Bw⟩
theorem cells_far {w : World} {b off : Nat} {xs : List Value} (h : Cells w (some ⟨b, off, none⟩) xs) {a : Addr} (hne : b ≠ a.block) (u : Value) : Cells (w.setCell a u) (some ⟨b, off, none⟩) xs := fun hx => by
  obtain ⟨b', o', e, hb, hc⟩ := h hx
  injection e with e
  injection e with e1 e2 _
  subst e1 e2
  exact ⟨b, off, rfl, by simpa using hb, fun i v hv => (World.cell?_of_block (Below.heap_setCell w a u b hne)).trans (hc i v hv)⟩
end Go.Proofs.Ytbancojknahdgaa

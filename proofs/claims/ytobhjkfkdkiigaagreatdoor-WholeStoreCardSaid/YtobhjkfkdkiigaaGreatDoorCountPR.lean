/- Lists of numbers in their order, rows with one more: the contracts of osierref01.Less and PutRow (parts of the texts CloneE and CloneI, for this seat). -/
import Derived.Test.YtobhjkfkdkiigaaGreatDoorCountJ
import Derived.Test.YtobhjkfkdkiigaaGreatDoorNodeBZ
import Derived.Test.YtobhjkfkdkiigaaGreatDoorAppS
import Derived.Lib.OwnBridge
namespace Go.Proofs.YtobhjkfkdkiigaaGreatDoor
open Go.RowKit HP NP
theorem rows_info6 : (Tryz.prog.info? 45).map (fun i => (i.zero, i.size, i.bytes)) = some (some (.slice none 0 0), 1, 24) := by kernel_rfl
def lessL : List Int → List Int → Bool
  | [], [] => false
  | [], _ :: _ => true
  | _ :: _, [] => false
  | a :: l, b :: m => if a = b then lessL l m else decide (a < b)
theorem lessL_irr : ∀ l, lessL l l = false
  | [] => rfl
  | a :: l => by unfold lessL; rw [if_pos rfl]; exact lessL_irr l
theorem lessL_tri : ∀ l m, lessL l m = false → l = m ∨ lessL m l = true
  | [], [], _ => .inl rfl
  | [], _ :: _, h => by cases h
  | _ :: _, [], _ => .inr rfl
  | a :: l, b :: m, h => by
    unfold lessL at h
    by_cases e : a = b
    · subst e
      rw [if_pos rfl] at h
      rcases lessL_tri l m h with h | h
      · exact .inl (by rw [h])
      · right; unfold lessL; rw [if_pos rfl]; exact h
    · rw [if_neg e] at h
      right; unfold lessL; rw [if_neg (fun h => e h.symm)]
      have := of_decide_eq_false h
      exact decide_eq_true (by omega)
theorem lessL_trans : ∀ l m r, lessL l m = true → lessL m r = true → lessL l r = true
  | [], [], _, h, _ => by cases h
  | [], _ :: _, [], _, h => by cases h
  | [], _ :: _, _ :: _, _, _ => rfl
  | _ :: _, [], _, h, _ => by cases h
  | _ :: _, _ :: _, [], _, h => by cases h
  | a :: l, b :: m, c :: r, h1, h2 => by
    unfold lessL at h1 h2 ⊢
    by_cases e1 : a = b
    · subst e1
      rw [if_pos rfl] at h1
      by_cases e2 : a = c
      · subst e2
        rw [if_pos rfl] at h2 ⊢
        exact lessL_trans l m r h1 h2
      · rw [if_neg e2] at h2 ⊢; exact h2
    · rw [if_neg e1] at h1
      have h1 := of_decide_eq_true h1
      by_cases e2 : b = c
      · subst e2
        rw [if_neg e1]; exact decide_eq_true h1
      · rw [if_neg e2] at h2
        have h2 := of_decide_eq_true h2
        rw [if_neg (by omega)]; exact decide_eq_true (by omega)
/-- rows, rising, with one more, once -/
def putL : List (List Int) → List Int → List (List Int)
  | [], r => [r]
  | x :: l, r => if lessL x r = true then x :: putL l r else if x = r then x :: l else r :: x :: l
theorem putL_at : ∀ (l : List (List Int)) (r : List Int) (k : Nat), k ≤ l.length → (∀ j x, j < k → l[j]? = some x → lessL x r = true) → (∀ x, l[k]? = some x → lessL x r = false) → putL l r = if l[k]? = some r then l else l.take k ++ r :: l.drop k
  | [], r, k, hk, _, _ => by
    obtain rfl : k = 0 := by simpa using hk
    rfl
  | x :: l, r, 0, _, _, h2 => by
    have := h2 x rfl
    unfold putL
    rw [if_neg (by rw [this]; decide)]
    by_cases e : x = r
    · subst e; rw [if_pos rfl]; exact (if_pos rfl).symm
    · rw [if_neg e]; exact (if_neg (by simp; exact e)).symm
  | x :: l, r, k + 1, hk, h1, h2 => by
    have := h1 0 x (by omega) rfl
    unfold putL
    rw [if_pos this, putL_at l r k (by simpa using hk) (fun j y hj hy => h1 (j + 1) y (by omega) hy) (fun y hy => h2 y hy)]
    show x :: (if l[k]? = some r then _ else _) = if l[k]? = some r then _ else _
    by_cases e : l[k]? = some r
    · rw [if_pos e, if_pos e]
    · rw [if_neg e, if_neg e]; rfl
theorem putL_mem (r y : List Int) : ∀ l, y ∈ putL l r ↔ y ∈ l ∨ y = r
  | [] => by unfold putL; simp
  | x :: l => by
    unfold putL
    split
    · rw [List.mem_cons, putL_mem r y l, List.mem_cons]
      constructor
      · rintro (h | h | h)
        · exact .inl (.inl h)
        · exact .inl (.inr h)
        · exact .inr h
      · rintro ((h | h) | h)
        · exact .inl h
        · exact .inr (.inl h)
        · exact .inr (.inr h)
    · split
      · rename_i e
        subst e
        constructor
        · exact .inl
        · rintro (h | h)
          · exact h
          · rw [h]; exact List.mem_cons_self ..
      · rw [List.mem_cons]
        exact Or.comm
theorem putL_sorted (r : List Int) : ∀ l, l.Pairwise (fun a b => lessL a b = true) → (putL l r).Pairwise fun a b => lessL a b = true
  | [], _ => by unfold putL; exact List.pairwise_singleton ..
  | x :: l, h => by
    obtain ⟨h1, h2⟩ := List.pairwise_cons.1 h
    unfold putL
    split
    · rename_i e
      refine List.pairwise_cons.2 ⟨fun y hy => ?_, putL_sorted r l h2⟩
      rcases (putL_mem r y l).1 hy with hy | rfl
      · exact h1 y hy
      · exact e
    · split
      · exact h
      · rename_i e1 e2
        have hr : lessL r x = true := by
          rcases lessL_tri x r (by simpa using e1) with h3 | h3
          · exact absurd h3 e2
          · exact h3
        refine List.pairwise_cons.2 ⟨fun y hy => ?_, h⟩
        rcases List.mem_cons.1 hy with rfl | hy
        · exact hr
        · exact lessL_trans _ _ _ hr (h1 y hy)
theorem putL_len (r : List Int) : ∀ l, r ∉ l → (putL l r).length = l.length + 1
  | [], _ => rfl
  | x :: l, h => by
    unfold putL
    split
    · rw [List.length_cons, putL_len r l (fun h2 => h (List.mem_cons_of_mem _ h2)), List.length_cons]
    · split
      · rename_i e
        exact absurd (by rw [e]; exact List.mem_cons_self ..) h
      · rfl
theorem putL_le (r : List Int) : ∀ l, (putL l r).length ≤ l.length + 1
  | [] => Nat.le_refl _
  | x :: l => by
    unfold putL
    split
    · have := putL_le r l
      rw [List.length_cons, List.length_cons]; omega
    · split
      · omega
      · exact Nat.le_refl _
theorem drop_at {α : Type} {l : List α} {k : Nat} {x : α} (h : l[k]? = some x) : l.drop k = x :: l.drop (k + 1) := by
  obtain ⟨h1, h2⟩ := List.getElem?_eq_some_iff.1 h
  rw [List.drop_eq_getElem_cons h1, h2]
theorem lessL_cons (a b : Int) (l m : List Int) : lessL (a :: l) (b :: m) = if a = b then lessL l m else decide (a < b) := by rw [lessL]
set_option maxHeartbeats 1600000 in
theorem less_ok (w : World) (a b : Option Addr) (ca cb : Nat) (l m : List Int) (hl : l.length ≤ maxLen) (_hm : m.length ≤ maxLen) (hc : Cells w a (zV l)) (hd : Cells w b (zV m)) :
    Calls Tryz.prog 28 #[.slice a l.length ca, .slice b m.length cb] w (Tells (lessL l m) w) := by
  unfold maxLen at hl _hm
  obtain ⟨N, hN⟩ : ∃ N, l.length = N := ⟨_, rfl⟩
  obtain ⟨M, hM⟩ : ∃ M, m.length = M := ⟨_, rfl⟩
  have HL := Lib.hid hN; have HM := Lib.hid hM; have HC := Lib.hid hc; have HD := Lib.hid hd
  rw [hN] at hl ⊢
  rw [hM] at _hm ⊢
  clear hN hM hc hd
  go_enter Tryz.func28, Tryz.ntmps28
  go_wp2_with fail
  go_loopg [5] N (fun mm x wr => ∃ k n : Nat, mm + k = N ∧ k ≤ M ∧ wr = w.drewN n ∧ x = .int .i64 (k : Int) ∧ lessL l m = lessL (l.drop k) (m.drop k))
  case atStart => exact ⟨0, 0, rfl, Nat.zero_le _, rfl, rfl, rfl⟩
  case round =>
    obtain ⟨k, n, hmm, hkM, rfl, rfl, hkk⟩ := hrel
    have HMM := Lib.hid hmm; have HKK := Lib.hid hkk
    clear hmm hkk
    by_cases hlt : k < N
    · obtain ⟨x, hx⟩ : ∃ x, l[k]? = some x := ⟨_, List.getElem?_eq_getElem (by rw [HL.out]; exact hlt)⟩
      by_cases hlt2 : k < M
      · obtain ⟨y, hy⟩ : ∃ y, m[k]? = some y := ⟨_, List.getElem?_eq_getElem (by rw [HM.out]; exact hlt2)⟩
        obtain ⟨b1, off1, e1, hb1, hc1⟩ := HC.out.at_ (zV_at hx)
        obtain ⟨b2, off2, e2, hb2, hc2⟩ := HD.out.at_ (zV_at hy)
        subst e1 e2
        have hk2 := HKK.out
        rw [drop_at hx, drop_at hy, lessL_cons] at hk2
        clear hx hy
        by_cases hxy : x = y
        · subst hxy
          rw [if_pos rfl] at hk2
          have HK2 := Lib.hid hk2
          have hd : (x != x) = false := by simp
          clear hk2
          go_wp2_with fail
          go_quiet (fail)
          go_wp2_with fail
          go_roundg (N - (k + 1))
          case measure => have := HMM.out; omega
          case rel => exact ⟨k + 1, _, by have := HMM.out; omega, by omega, rfl, by go_num, HK2.out⟩
        · rw [if_neg hxy] at hk2
          have HK2 := Lib.hid hk2
          have hd : (x != y) = true := by rw [bne_iff_ne]; exact hxy
          clear hxy hk2
          go_wp2_with fail
          go_quiet (fail)
          go_wp2_with fail
          go_quiet (fail)
          go_wp2_with fail
          go_ret
          exact ⟨by rw [HK2.out]; rfl, _, (World.drewN_drewN _ _ _).trans (World.drewN_drewN _ _ _)⟩
      · have hk2 := HKK.out
        have em : m.drop k = [] := List.drop_eq_nil_of_le (by rw [HM.out]; omega)
        rw [drop_at hx, em] at hk2
        have HK2 : Hid (lessL l m = false) := Lib.hid (by rw [hk2]; rfl)
        have hNM : ¬ N < M := by omega
        clear hk2 hx em
        go_wp2_with fail
        go_ret
        exact ⟨by rw [HK2.out]; simp, _, rfl⟩
    · have hkN : k = N := by have := HMM.out; omega
      have HK2 : Hid (lessL l m = decide (N < M)) := Lib.hid (by
        have el : l.drop k = [] := List.drop_eq_nil_of_le (by rw [HL.out]; omega)
        rw [HKK.out, el]
        by_cases h : k < M
        · rw [drop_at (l := m) (k := k) (List.getElem?_eq_getElem (by rw [HM.out]; exact h)), decide_eq_true (by omega)]; rfl
        · have em : m.drop k = [] := List.drop_eq_nil_of_le (by rw [HM.out]; omega)
          rw [em, decide_eq_false (by omega)]; rfl)
      clear hkN
      go_wp2_with fail
      go_ret
      exact ⟨by rw [HK2.out]; simp, _, rfl⟩
/-- cells of a row of numbers, with the type of their block -/
structure CellsT (w : World) (a : Option Addr) (xs : List Value) : Prop where
  c : Cells w a xs
  t : TB w a 3
theorem tb_below {w w' : World} {a : Option Addr} {t : TypeId} (h : TB w a t) (hb : Below w.heap.size w w') : TB w' a t := fun b off s e => by
  obtain ⟨cs, hc⟩ := h b off s e; exact ⟨cs, hc.below hb hc.lt⟩
theorem tb_some {w : World} {g : Nat} {t : TypeId} (h : ∃ cs, Blk w g t cs) : TB w (some ⟨g, 0, none⟩) t := fun b off s e => by
  injection e with e
  injection e with e1 _ _
  subst e1; exact h
theorem CellsT.below {w w' : World} {a : Option Addr} {xs : List Value} (h : CellsT w a xs) (hb : Below w.heap.size w w') : CellsT w' a xs := ⟨h.c.below hb, tb_below h.t hb⟩
theorem CellsT.kb {T : TypeId → Bool} {w w' : World} {a : Option Addr} {xs : List Value} (h : CellsT w a xs) (hk : Kb T w w') (ht : T 3 = false) : CellsT w' a xs := ⟨h.c.kb h.t hk ht, h.t.kb hk ht⟩
/-- a slice of rows of numbers, with the types of their blocks -/
def RowsT (w : World) (a : Option Addr) (L : List (List Int)) : Prop :=
  ∃ sls : List Value, (Cells w a sls ∧ TB w a 45) ∧ ∀ (i : Nat) (l : List Int), L[i]? = some l → l.length ≤ maxLen ∧ ∃ ad cap, sls[i]? = some (Value.slice ad l.length cap) ∧ CellsT w ad (zV l)
theorem RowsT.below {w w' : World} {a : Option Addr} {L : List (List Int)} (h : RowsT w a L) (hb : Below w.heap.size w w') : RowsT w' a L := by
  obtain ⟨sls, h1, h2⟩ := h
  exact ⟨sls, ⟨h1.1.below hb, tb_below h1.2 hb⟩, fun i l hl => ⟨(h2 i l hl).1, by
    obtain ⟨_, ad, cap, h3, h4⟩ := h2 i l hl
    exact ⟨ad, cap, h3, h4.below hb⟩⟩⟩
theorem RowsT.kb {T : TypeId → Bool} {w w' : World} {a : Option Addr} {L : List (List Int)} (h : RowsT w a L) (hk : Kb T w w') (h1 : T 3 = false) (h2 : T 45 = false) : RowsT w' a L := by
  obtain ⟨sls, h3, h4⟩ := h
  exact ⟨sls, ⟨h3.1.kb h3.2 hk h2, h3.2.kb hk h2⟩, fun i l hl => ⟨(h4 i l hl).1, by
    obtain ⟨_, ad, cap, h5, h6⟩ := h4 i l hl
    exact ⟨ad, cap, h5, h6.kb hk h1⟩⟩⟩
theorem RowsT.at_ {w : World} {a : Option Addr} {L : List (List Int)} (h : RowsT w a L) {i : Nat} {l : List Int} (hl : L[i]? = some l) :
    ∃ b off ad cap, a = some ⟨b, off, none⟩ ∧ b < w.heap.size ∧ w.cell? ⟨b, off + i, none⟩ = some (Value.slice ad l.length cap) ∧ CellsT w ad (zV l) ∧ l.length ≤ maxLen := by
  obtain ⟨sls, h1, h2⟩ := h
  obtain ⟨h0, ad, cap, h3, h4⟩ := h2 i l hl
  obtain ⟨b, off, e, hb, hc⟩ := h1.1.at_ h3
  exact ⟨b, off, ad, cap, e, hb, hc, h4, h0⟩
/-- rows of numbers, as PutRow makes them -/
def RowsV (w : World) (v : Value) (L : List (List Int)) : Prop :=
  (v = .slice none 0 0 ∧ L = []) ∨ ∃ lb ca, v = .slice (some ⟨lb, 0, none⟩) L.length ca ∧ 0 < L.length ∧ L.length ≤ ca ∧ ca ≤ maxLen ∧ lb < w.heap.size ∧ RowsT w (some ⟨lb, 0, none⟩) L
theorem RowsV.below {w w' : World} {v : Value} {L : List (List Int)} (h : RowsV w v L) (hb : Below w.heap.size w w') : RowsV w' v L := by
  rcases h with h | ⟨lb, ca, h1, h2, h3, h4, h5, h6⟩
  · exact .inl h
  · exact .inr ⟨lb, ca, h1, h2, h3, h4, Nat.lt_of_lt_of_le h5 hb.size, h6.below hb⟩
theorem RowsV.kb {T : TypeId → Bool} {w w' : World} {v : Value} {L : List (List Int)} (h : RowsV w v L) (hk : Kb T w w') (hs : w.heap.size ≤ w'.heap.size) (h1 : T 3 = false) (h2 : T 45 = false) : RowsV w' v L := by
  rcases h with h | ⟨lb, ca, e1, e2, e3, e4, e5, e6⟩
  · exact .inl h
  · exact .inr ⟨lb, ca, e1, e2, e3, e4, Nat.lt_of_lt_of_le e5 hs, e6.kb hk h1 h2⟩
theorem own_cellsG {w : World} {base e size n : Nat} {v : Value} {xs : List Value} (h : w.ownsRow base e size v n xs) (hn : 0 < n) : ∃ g cap, v = .slice (some ⟨g, 0, none⟩) n cap ∧ n ≤ cap ∧ cap ≤ maxLen ∧ g < w.heap.size ∧ Cells w (some ⟨g, 0, none⟩) xs ∧ ∃ cs, Blk w g e cs := by
  obtain ⟨a, c, rfl, h1, h2, h3⟩ := Cells.of_own h
  obtain ⟨g, cap, e, hk⟩ : ∃ g cap, Value.slice a n c = .slice (some ⟨g, 0, none⟩) n cap ∧ ∃ cs, Blk w g e cs := by
    rcases h.2 with ⟨h1, h2⟩ | ⟨g, cap, cur, h1, _, h4, _⟩
    · exfalso; cases h1; omega
    · exact ⟨g, cap, h1, cur, h4⟩
  injection e with e1 e2 e3
  subst e1 e3
  exact ⟨g, c, rfl, h1, h2, (h.lt g rfl).2, h3, hk⟩
theorem ones_sliceE (a : Option Addr) (n c : Nat) : ∀ u ∈ [Value.slice a n c], u.oneCell' = true := by intro u hu; simp at hu; subst hu; rfl
theorem lit_oneV (w : World) (v : Value) (t : TypeId) : ∀ j u, [v][j]? = some u → (w.alloc (.cells #[v] t)).cell? ((⟨w.heap.size, 0, none⟩ : Addr).add j) = some u := fun j u hj => by
  match j, hj with
  | 0, hj => simp at hj; subst hj; exact World.cell?_alloc_new ..
set_option maxRecDepth 100000 in
set_option maxHeartbeats 1600000 in
theorem putrow_nil (w : World) (b : Option Addr) (cb : Nat) (r : List Int) (hl : r.length ≤ 1024) (hd : CellsT w b (zV r)) :
    Calls Tryz.prog 9 #[.slice none 0 0, .slice b r.length cb] w fun e w' => Below w.heap.size w w' ∧ ∃ v, e = .returned v ∧ RowsV w' v [r] := by
  obtain ⟨R, hR⟩ : ∃ R, r.length = R := ⟨_, rfl⟩
  have HR := Lib.hid hR; have HD := Lib.hid hd
  rw [hR] at hl ⊢
  clear hR hd
  obtain ⟨j0, hj0, yz0, yz1, yz2⟩ := info_parts rows_info6
  go_enter Tryz.func9, Tryz.ntmps9
  go_wp2_with fail
  go_loopg [5] 0 (fun mm x wr => x = .int .i64 0 ∧ w = wr)
  case atStart => exact ⟨rfl, rfl⟩
  case round =>
    obtain ⟨rfl, rfl⟩ := hrel
    go_wp2_with (at_builtin; refine wpList_append_src rfl (.tmp 34) (.tmp 37) 42 rfl w.heap.size 45 j0 (.slice none 0 0) 1 24 Tryz.underlying42 hj0 yz0 yz1 yz2 rfl (by decide) (.slice none 0 0) 0 [] rfl (World.ownsRow_nil _ _ _ _) none 0 0 [] rfl rfl (Cells.nil _ _) (by simp) (by unfold maxLen; omega) (by omega) (Nat.le_refl _) ?_)
    intro y3 w3 hown3 hg3 hn3
    clear hn3
    have hb3 : Below w.heap.size w w3 := (Below.refl w.heap.size w).grown hg3 (Nat.le_refl _) (fun j hj => by cases hj)
    have HR3 : Hid (w3.ownsRow w.heap.size 45 1 y3 0 []) := Lib.hid hown3
    have HB3 := Lib.hid hb3
    have hs3 := hb3.size
    clear hown3 hg3 hb3
    go_wp2_with (at_builtin; refine wpList_append_sep rfl (.tmp 39) (.tmp 41) 42 rfl w.heap.size 45 j0 (.slice none 0 0) 1 24 Tryz.underlying42 hj0 yz0 yz1 yz2 rfl (by decide) y3 0 _ rfl (HR3.out.alloc _) w3.heap.size 0 1 1 [.slice b R cb] rfl rfl (lit_oneV _ _ _) (ones_sliceE _ _ _) (by unfold maxLen; omega) (by omega) (by simp; omega) ?_)
    intro y4 w4 hown4 hg4 hn4
    clear hn4
    have hb4 : Below w.heap.size w w4 := (HB3.out.alloc hs3 (.cells #[.slice b R cb] 45)).grown hg4 (by simp; omega) (fun j hj => (HR3.out.lt j hj).1)
    have HR4 : Hid (w4.ownsRow w.heap.size 45 1 y4 1 [.slice b R cb]) := Lib.hid hown4
    have HB4 := Lib.hid hb4
    have hs4 := hb4.size
    clear hown4 hg4 hb4
    go_wp2_with (at_builtin; refine wpList_append_src rfl (.tmp 43) (.tmp 46) 42 rfl w.heap.size 45 j0 (.slice none 0 0) 1 24 Tryz.underlying42 hj0 yz0 yz1 yz2 rfl (by decide) y4 1 _ rfl HR4.out none 0 0 [] rfl rfl (Cells.nil _ _) (by simp) (by unfold maxLen; omega) (by omega) hs4 ?_)
    intro y5 w5 hown5 hg5 hn5
    clear hn5
    have hb5 : Below w.heap.size w w5 := HB4.out.grown hg5 hs4 (fun j hj => (HR4.out.lt j hj).1)
    have HR5 : Hid (w5.ownsRow w.heap.size 45 1 y5 1 [.slice b R cb]) := Lib.hid hown5
    have HB5 := Lib.hid hb5
    clear hown5 hg5 hb5
    go_wp2_with fail
    go_ret
    refine ⟨HB5.out, y5, rfl, .inr ?_⟩
    obtain ⟨g, cap, rfl, h1, h2, h3, h4, h5⟩ := own_cellsG HR5.out (by decide)
    refine ⟨g, cap, rfl, Nat.one_pos, h1, h2, h3, [.slice b R cb], ⟨h4, tb_some h5⟩, fun i l hi => ?_⟩
    match i, hi with
    | 0, hi =>
      injection hi with hi
      subst hi
      exact ⟨by rw [HR.out]; unfold maxLen; omega, b, cb, by rw [HR.out]; rfl, HD.out.below HB5.out⟩
theorem Cells.take_ {w : World} {a : Option Addr} {xs : List Value} (h : Cells w a xs) (k : Nat) : Cells w a (xs.take k) := fun hx => by
  obtain ⟨b, off, e, hb, hc⟩ := h (by intro h0; rw [h0] at hx; simp at hx)
  exact ⟨b, off, e, hb, fun i v hv => hc i v (by
    rw [List.getElem?_take] at hv
    split at hv
    · exact hv
    · cases hv)⟩
theorem Cells.drop_ {w : World} {b : Nat} {xs : List Value} (h : Cells w (some ⟨b, 0, none⟩) xs) (k : Nat) : Cells w (some ⟨b, k, none⟩) (xs.drop k) := fun hx => by
  obtain ⟨b2, off, e, hb, hc⟩ := h (by intro h0; rw [h0] at hx; simp at hx)
  injection e with e
  injection e with e1 e2 _
  subst e1 e2
  exact ⟨b, k, rfl, hb, fun i v hv => by
    have := hc (k + i) v (by rw [List.getElem?_drop] at hv; exact hv)
    rw [Nat.zero_add] at this; exact this⟩
/-- the slices of rows -/
theorem RowsT.sls {w : World} {b : Nat} {L : List (List Int)} (h : RowsT w (some ⟨b, 0, none⟩) L) : ∃ sls : List Value, sls.length = L.length ∧ Cells w (some ⟨b, 0, none⟩) sls ∧ (∀ u ∈ sls, u.oneCell' = true) ∧ ∀ (i : Nat) (l : List Int), L[i]? = some l → l.length ≤ maxLen ∧ ∃ ad cap, sls[i]? = some (Value.slice ad l.length cap) ∧ CellsT w ad (zV l) := by
  obtain ⟨sls, h1, h2⟩ := h
  have hlen : L.length ≤ sls.length := by
    rcases Nat.lt_or_ge sls.length L.length with h3 | h3
    · obtain ⟨_, ad, cap, h4, _⟩ := h2 sls.length _ (List.getElem?_eq_getElem h3)
      rw [List.getElem?_eq_none (Nat.le_refl _)] at h4; cases h4
    · exact h3
  refine ⟨sls.take L.length, by rw [List.length_take]; omega, h1.1.take_ _, fun u hu => ?_, fun i l hi => ?_⟩
  · obtain ⟨i, hi⟩ := List.getElem?_of_mem hu
    rw [List.getElem?_take] at hi
    split at hi
    · rename_i hlt
      obtain ⟨_, ad, cap, h4, _⟩ := h2 i _ (List.getElem?_eq_getElem hlt)
      rw [h4] at hi
      injection hi with hi
      rw [← hi]; rfl
    · cases hi
  · obtain ⟨h3, ad, cap, h4, h5⟩ := h2 i l hi
    have hlt := (List.getElem?_eq_some_iff.1 hi).1
    exact ⟨h3, ad, cap, by rw [List.getElem?_take, if_pos hlt]; exact h4, h5⟩
theorem RowsT.put {w : World} {g : Nat} {L : List (List Int)} {sls : List Value} {k : Nat} {r : List Int} {b : Option Addr} {cb : Nat} (hlen : sls.length = L.length) (hk : k ≤ L.length)
    (h2 : ∀ (i : Nat) (l : List Int), L[i]? = some l → l.length ≤ maxLen ∧ ∃ ad cap, sls[i]? = some (Value.slice ad l.length cap) ∧ CellsT w ad (zV l)) (hr : r.length ≤ maxLen) (hd : CellsT w b (zV r))
    (hc : Cells w (some ⟨g, 0, none⟩) (sls.take k ++ .slice b r.length cb :: sls.drop k)) (hg : ∃ cs, Blk w g 45 cs) : RowsT w (some ⟨g, 0, none⟩) (L.take k ++ r :: L.drop k) := by
  refine ⟨_, ⟨hc, tb_some hg⟩, fun i l hi => ?_⟩
  rcases Nat.lt_trichotomy i k with h | h | h
  · rw [List.getElem?_append_left (by rw [List.length_take]; omega), List.getElem?_take, if_pos h] at hi
    obtain ⟨h3, ad, cap, h4, h5⟩ := h2 i l hi
    exact ⟨h3, ad, cap, by rw [List.getElem?_append_left (by rw [List.length_take]; omega), List.getElem?_take, if_pos h]; exact h4, h5⟩
  · subst h
    rw [List.getElem?_append_right (by rw [List.length_take]; omega), show i - (L.take i).length = 0 from by rw [List.length_take]; omega] at hi
    injection hi with hi
    subst hi
    exact ⟨hr, b, cb, by rw [List.getElem?_append_right (by rw [List.length_take]; omega), show i - (sls.take i).length = 0 from by rw [List.length_take]; omega]; rfl, hd⟩
  · obtain ⟨d, rfl⟩ : ∃ d, i = k + 1 + d := ⟨i - (k + 1), by omega⟩
    rw [List.getElem?_append_right (by rw [List.length_take]; omega), show k + 1 + d - (L.take k).length = d + 1 from by rw [List.length_take]; omega, List.getElem?_cons_succ, List.getElem?_drop] at hi
    obtain ⟨h3, ad, cap, h4, h5⟩ := h2 (k + d) l hi
    exact ⟨h3, ad, cap, by rw [List.getElem?_append_right (by rw [List.length_take]; omega), show k + 1 + d - (sls.take k).length = d + 1 from by rw [List.length_take]; omega, List.getElem?_cons_succ, List.getElem?_drop]; exact h4, h5⟩
theorem rowsv_put {w : World} {base k N R : Nat} {L : List (List Int)} {sls : List Value} {r : List Int} {b : Option Addr} {cb : Nat} {y : Value} {PL : List (List Int)} (h : w.ownsRow base 45 1 y (k + 1 + (N - k)) (sls.take k ++ .slice b R cb :: sls.drop k))
    (hPL : PL = L.take k ++ r :: L.drop k) (hN : L.length = N) (hR : r.length = R) (hk : k ≤ N) (hlen : sls.length = N) (h2 : ∀ (i : Nat) (l : List Int), L[i]? = some l → l.length ≤ maxLen ∧ ∃ ad cap, sls[i]? = some (Value.slice ad l.length cap) ∧ CellsT w ad (zV l)) (hr : R ≤ maxLen) (hd : CellsT w b (zV r)) : RowsV w y PL := by
  subst hR
  have hl : PL.length = k + 1 + (N - k) := by rw [hPL, List.length_append, List.length_take, List.length_cons, List.length_drop]; omega
  obtain ⟨g, cap, rfl, h3, h4, h5, h6, h7⟩ := own_cellsG h (by omega)
  refine .inr ⟨g, cap, by rw [hl], by omega, by omega, h4, h5, ?_⟩
  rw [hPL]
  exact RowsT.put (by omega) (by omega) h2 hr hd h6 h7
set_option maxRecDepth 100000 in
set_option maxHeartbeats 6400000 in
theorem putrow_some (w : World) (lb ca : Nat) (L : List (List Int)) (b : Option Addr) (cb : Nat) (r : List Int) (h0 : 0 < L.length) (hl : L.length ≤ 1024) (hca : L.length ≤ ca) (hcm : ca ≤ maxLen) (hlb : lb < w.heap.size) (hL : RowsT w (some ⟨lb, 0, none⟩) L) (hr : r.length ≤ 1024) (hd : CellsT w b (zV r)) :
    Calls Tryz.prog 9 #[.slice (some ⟨lb, 0, none⟩) L.length ca, .slice b r.length cb] w fun e w' => Below w.heap.size w w' ∧ ∃ v, e = .returned v ∧ RowsV w' v (putL L r) := by
  unfold maxLen at hcm
  obtain ⟨R, hR⟩ : ∃ R, r.length = R := ⟨_, rfl⟩
  obtain ⟨N, hN⟩ : ∃ N, L.length = N := ⟨_, rfl⟩
  have HR := Lib.hid hR; have HN := Lib.hid hN; have HD := Lib.hid hd; have HL := Lib.hid hL
  rw [hR] at hr ⊢
  rw [hN] at h0 hl hca ⊢
  clear hR hN hd hL
  obtain ⟨j0, hj0, yz0, yz1, yz2⟩ := info_parts rows_info6
  go_enter Tryz.func9, Tryz.ntmps9
  go_wp2_with fail
  go_loopg [5] N (fun mm x wr => ∃ k : Nat, mm + k = N ∧ x = .int .i64 (k : Int) ∧ Below w.heap.size w wr ∧ ∀ j y, j < k → L[j]? = some y → lessL y r = true)
  case atStart => exact ⟨0, rfl, rfl, Below.refl _ _, fun j y hj => absurd hj (Nat.not_lt_zero _)⟩
  case round =>
    obtain ⟨k, hm, rfl, hb, hall⟩ := hrel
    have HM := Lib.hid hm; have HB := Lib.hid hb; have HALL := Lib.hid hall
    have hkN : k ≤ N := by omega
    clear hm hb hall
    by_cases hk : k < N
    · obtain ⟨x, hx⟩ : ∃ x, L[k]? = some x := ⟨_, List.getElem?_eq_getElem (by rw [HN.out]; exact hk)⟩
      obtain ⟨b1, off1, ad, cp, e1, hb1, hc1, hr1, hx1⟩ := (HL.out.below HB.out).at_ hx
      injection e1 with e1
      injection e1 with e1 e2 _
      subst e1 e2
      rw [Nat.zero_add] at hc1
      have HLE : Hid (Calls Tryz.prog 28 #[.slice ad x.length cp, .slice b R cb] wr (Tells (lessL x r) wr)) := Lib.hid (by
        have h := less_ok wr ad b cp cb x r hx1 (by rw [HR.out]; unfold maxLen; omega) hr1.c (HD.out.below HB.out).c
        rw [HR.out] at h; exact h)
      have HSI : Hid (∀ q, Calls Tryz.prog 29 #[.slice ad x.length cp, .slice b R cb] (wr.drewN q) (Tells (x == r) (wr.drewN q))) := Lib.hid (fun q => by
        have h := sameInts_ok (wr.drewN q) ad b cp cb x r hx1 (hr1.c.drewN_ q) ((HD.out.below HB.out).c.drewN_ q)
        rw [HR.out] at h; exact h)
      have HX := Lib.hid hx
      obtain ⟨lx, hlx⟩ : ∃ lx, x.length = lx := ⟨_, rfl⟩
      rw [hlx] at HLE HSI hc1
      clear hx hr1 hx1 hlx
      cases hless : lessL x r with
      | true =>
        have HLS := Lib.hid hless
        rw [hless] at HLE
        clear hless
        go_wp2_with fail
        refine HLE.out.mono ?_
        rintro e w4 ⟨rfl, q, rfl⟩
        have HB4 := Lib.hid (HB.out.trans ((drew_below wr q).mono HB.out.size))
        clear HLE HSI HB
        go_wp2_with fail
        go_roundg (N - (k + 1))
        case measure => have := HM.out; omega
        case rel => exact ⟨k + 1, by have := HM.out; omega, by go_num, HB4.out, fun j y hj hy => by
          by_cases e : j = k
          · subst e; rw [HX.out] at hy; injection hy with hy; subst hy; exact HLS.out
          · exact HALL.out j y (by omega) hy⟩
      | false =>
        have HBQ : Hid (∀ q, Below w.heap.size w (wr.drewN q)) := Lib.hid (fun q => HB.out.trans ((drew_below wr q).mono HB.out.size))
        have HPA : Hid (putL L r = if L[k]? = some r then L else L.take k ++ r :: L.drop k) := Lib.hid (putL_at L r k (by rw [HN.out]; omega) HALL.out (fun y hy => by rw [HX.out] at hy; injection hy with hy; subst hy; exact hless))
        rw [hless] at HLE
        clear hless
        go_wp2_with fail
        refine HLE.out.mono ?_
        rintro e w4 ⟨rfl, q, rfl⟩
        have HB4 := Lib.hid (HB.out.trans ((drew_below wr q).mono HB.out.size))
        cases hsame : (x == r) with
        | true =>
          have hxr : x = r := by simpa using hsame
          have HPL : Hid (putL L r = L) := Lib.hid (by rw [HPA.out, HX.out, hxr, if_pos rfl])
          rw [hsame] at HSI
          clear hsame hxr HLE HB
          go_wp2_with fail
          refine (HSI.out q).mono ?_
          rintro e w5 ⟨rfl, q2, rfl⟩
          have HB5 := Lib.hid (HBQ.out (q + q2))
          clear HSI HB4
          go_wp2_with fail
          go_ret
          refine ⟨HB5.out, _, rfl, .inr ⟨lb, ca, by rw [HPL.out, HN.out]; rfl, ?_, ?_, hcm, Nat.lt_of_lt_of_le hlb HB5.out.size, ?_⟩⟩
          · rw [HPL.out, HN.out]; exact h0
          · rw [HPL.out, HN.out]; exact hca
          · rw [HPL.out]; exact HL.out.below HB5.out
        | false =>
          have hxr : x ≠ r := by simpa using hsame
          have HPL : Hid (putL L r = L.take k ++ r :: L.drop k) := Lib.hid (by rw [HPA.out, HX.out, if_neg (by intro e; injection e with e; exact hxr e)])
          rw [hsame] at HSI
          clear hsame hxr HLE HB
          go_wp2_with fail
          refine (HSI.out q).mono ?_
          rintro e w5 ⟨rfl, q2, rfl⟩
          have HB5 := Lib.hid (HB4.out.trans ((drew_below _ q2).mono HB4.out.size))
          obtain ⟨w1, hw1⟩ : ∃ w1, w1 = (wr.drewN q).drewN q2 := ⟨_, rfl⟩
          rw [← hw1] at HB5 ⊢
          clear hw1 HSI HB4 hc1 hb1
          go_upto_region 7 with (fail)
          obtain ⟨sls, hsl, hcs, hones, hget⟩ := (HL.out.below HB5.out).sls
          rw [HN.out] at hsl
          have hc1 := hcs.take_ k
          have hc2 := hcs.drop_ k
          have HC1 := Lib.hid hc1; have HC2 := Lib.hid hc2; have HGET := Lib.hid hget; have HSL := Lib.hid hsl
          have ho1 : ∀ u ∈ sls.take k, u.oneCell' = true := fun u hu => hones u (List.mem_of_mem_take hu)
          have ho2 : ∀ u ∈ sls.drop k, u.oneCell' = true := fun u hu => hones u (List.mem_of_mem_drop hu)
          have HO1 := Lib.hid ho1; have HO2 := Lib.hid ho2
          have hl1 : (sls.take k).length = k * 1 := by rw [List.length_take]; omega
          have hl2 : (sls.drop k).length = (N - k) * 1 := by rw [List.length_drop]; omega
          have HL1 := Lib.hid hl1; have HL2 := Lib.hid hl2
          have hkca : k ≤ ca := by omega
          clear hsl hcs hones hget hc1 hc2 ho1 ho2 hl1 hl2
          go_wp2_with (at_builtin; refine wpList_append_src rfl (.tmp 34) (.tmp 37) 42 rfl w1.heap.size 45 j0 (.slice none 0 0) 1 24 Tryz.underlying42 hj0 yz0 yz1 yz2 rfl (by decide) (.slice none 0 0) 0 [] rfl (World.ownsRow_nil _ _ _ _) (some ⟨lb, 0, none⟩) k _ (sls.take k) rfl HL1.out HC1.out HO1.out (by unfold maxLen; omega) (by omega) (Nat.le_refl _) ?_)
          intro y3 w3 hown3 hg3 hn3
          clear hn3
          have hb3 : Below w1.heap.size w1 w3 := (Below.refl w1.heap.size w1).grown hg3 (Nat.le_refl _) (fun j hj => by cases hj)
          have HR3 : Hid (w3.ownsRow w1.heap.size 45 1 y3 k (sls.take k)) := Lib.hid (by simpa using hown3)
          have HB3 := Lib.hid hb3
          have hs3 := hb3.size
          clear hown3 hg3 hb3
          go_wp2_with (at_builtin; refine wpList_append_sep rfl (.tmp 39) (.tmp 41) 42 rfl w1.heap.size 45 j0 (.slice none 0 0) 1 24 Tryz.underlying42 hj0 yz0 yz1 yz2 rfl (by decide) y3 k _ rfl (HR3.out.alloc _) w3.heap.size 0 1 1 [.slice b R cb] rfl rfl (lit_oneV _ _ _) (ones_sliceE _ _ _) (by unfold maxLen; omega) (by omega) (by simp; omega) ?_)
          intro y4 w4 hown4 hg4 hn4
          clear hn4
          have hb4 : Below w1.heap.size w1 w4 := (HB3.out.alloc hs3 (.cells #[.slice b R cb] 45)).grown hg4 (by simp; omega) (fun j hj => (HR3.out.lt j hj).1)
          have HR4 : Hid (w4.ownsRow w1.heap.size 45 1 y4 (k + 1) (sls.take k ++ [.slice b R cb])) := Lib.hid hown4
          have HB4 := Lib.hid hb4
          have hs4 := hb4.size
          have HC4 := Lib.hid (HC2.out.below hb4)
          clear hown4 hg4 hb4
          by_cases hck : ca = k
          · have HC5 : Hid (Cells w4 (some ⟨lb, 0, none⟩) (sls.drop k)) := Lib.hid (by
              have e : sls.drop k = [] := List.drop_eq_nil_of_le (by rw [HSL.out]; omega)
              rw [e]; exact Cells.nil _ _)
            go_wp2_with (at_builtin; refine wpList_append_src rfl (.tmp 43) (.tmp 46) 42 rfl w1.heap.size 45 j0 (.slice none 0 0) 1 24 Tryz.underlying42 hj0 yz0 yz1 yz2 rfl (by decide) y4 (k + 1) _ rfl HR4.out (some ⟨lb, 0, none⟩) (N - k) _ (sls.drop k) rfl HL2.out HC5.out HO2.out (by unfold maxLen; omega) (by omega) hs4 ?_)
            intro y5 w5 hown5 hg5 hn5
            clear hn5
            have hb5 : Below w1.heap.size w1 w5 := HB4.out.grown hg5 hs4 (fun j hj => (HR4.out.lt j hj).1)
            have HR5 : Hid (w5.ownsRow w1.heap.size 45 1 y5 (k + 1 + (N - k)) (sls.take k ++ .slice b R cb :: sls.drop k)) := Lib.hid (by simpa using hown5)
            have HB6 := Lib.hid (HB5.out.trans (hb5.mono HB5.out.size))
            have HG6 := Lib.hid hb5
            clear hown5 hg5 hb5
            go_wp2_with fail
            go_ret
            refine ⟨HB6.out, y5, rfl, ?_⟩
            exact rowsv_put HR5.out HPL.out HN.out HR.out hkN HSL.out (fun i l hi => by
              obtain ⟨h3, ad, cap, h4, h5⟩ := HGET.out i l hi
              exact ⟨h3, ad, cap, h4, h5.below HG6.out⟩) (by unfold maxLen; omega) (HD.out.below HB6.out)
          · go_wp2_with (at_builtin; refine wpList_append_src rfl (.tmp 43) (.tmp 46) 42 rfl w1.heap.size 45 j0 (.slice none 0 0) 1 24 Tryz.underlying42 hj0 yz0 yz1 yz2 rfl (by decide) y4 (k + 1) _ rfl HR4.out (some ⟨lb, k, none⟩) (N - k) _ (sls.drop k) rfl HL2.out HC4.out HO2.out (by unfold maxLen; omega) (by omega) hs4 ?_)
            intro y5 w5 hown5 hg5 hn5
            clear hn5
            have hb5 : Below w1.heap.size w1 w5 := HB4.out.grown hg5 hs4 (fun j hj => (HR4.out.lt j hj).1)
            have HR5 : Hid (w5.ownsRow w1.heap.size 45 1 y5 (k + 1 + (N - k)) (sls.take k ++ .slice b R cb :: sls.drop k)) := Lib.hid (by simpa using hown5)
            have HB6 := Lib.hid (HB5.out.trans (hb5.mono HB5.out.size))
            have HG6 := Lib.hid hb5
            clear hown5 hg5 hb5
            go_wp2_with fail
            go_ret
            refine ⟨HB6.out, y5, rfl, ?_⟩
            exact rowsv_put HR5.out HPL.out HN.out HR.out hkN HSL.out (fun i l hi => by
              obtain ⟨h3, ad, cap, h4, h5⟩ := HGET.out i l hi
              exact ⟨h3, ad, cap, h4, h5.below HG6.out⟩) (by unfold maxLen; omega) (HD.out.below HB6.out)
    · have hkN2 : k = N := by omega
      have HPL : Hid (putL L r = L.take k ++ r :: L.drop k) := Lib.hid (by
        rw [putL_at L r k (by rw [HN.out]; omega) HALL.out (fun y hy => by
          have := (List.getElem?_eq_some_iff.1 hy).1
          rw [HN.out] at this; omega), if_neg (by rw [List.getElem?_eq_none (by rw [HN.out]; omega)]; simp)])
      obtain ⟨w1, hw1⟩ : ∃ w1, w1 = wr := ⟨_, rfl⟩
      rw [← hw1] at HB ⊢
      have HB5 := HB
      clear hw1 HB hkN2
      go_upto_region 7 with (fail)
      obtain ⟨sls, hsl, hcs, hones, hget⟩ := (HL.out.below HB5.out).sls
      rw [HN.out] at hsl
      have hc1 := hcs.take_ k
      have hc2 := hcs.drop_ k
      have HC1 := Lib.hid hc1; have HC2 := Lib.hid hc2; have HGET := Lib.hid hget; have HSL := Lib.hid hsl
      have ho1 : ∀ u ∈ sls.take k, u.oneCell' = true := fun u hu => hones u (List.mem_of_mem_take hu)
      have ho2 : ∀ u ∈ sls.drop k, u.oneCell' = true := fun u hu => hones u (List.mem_of_mem_drop hu)
      have HO1 := Lib.hid ho1; have HO2 := Lib.hid ho2
      have hl1 : (sls.take k).length = k * 1 := by rw [List.length_take]; omega
      have hl2 : (sls.drop k).length = (N - k) * 1 := by rw [List.length_drop]; omega
      have HL1 := Lib.hid hl1; have HL2 := Lib.hid hl2
      have hkca : k ≤ ca := by omega
      clear hsl hcs hones hget hc1 hc2 ho1 ho2 hl1 hl2
      go_wp2_with (at_builtin; refine wpList_append_src rfl (.tmp 34) (.tmp 37) 42 rfl w1.heap.size 45 j0 (.slice none 0 0) 1 24 Tryz.underlying42 hj0 yz0 yz1 yz2 rfl (by decide) (.slice none 0 0) 0 [] rfl (World.ownsRow_nil _ _ _ _) (some ⟨lb, 0, none⟩) k _ (sls.take k) rfl HL1.out HC1.out HO1.out (by unfold maxLen; omega) (by omega) (Nat.le_refl _) ?_)
      intro y3 w3 hown3 hg3 hn3
      clear hn3
      have hb3 : Below w1.heap.size w1 w3 := (Below.refl w1.heap.size w1).grown hg3 (Nat.le_refl _) (fun j hj => by cases hj)
      have HR3 : Hid (w3.ownsRow w1.heap.size 45 1 y3 k (sls.take k)) := Lib.hid (by simpa using hown3)
      have HB3 := Lib.hid hb3
      have hs3 := hb3.size
      clear hown3 hg3 hb3
      go_wp2_with (at_builtin; refine wpList_append_sep rfl (.tmp 39) (.tmp 41) 42 rfl w1.heap.size 45 j0 (.slice none 0 0) 1 24 Tryz.underlying42 hj0 yz0 yz1 yz2 rfl (by decide) y3 k _ rfl (HR3.out.alloc _) w3.heap.size 0 1 1 [.slice b R cb] rfl rfl (lit_oneV _ _ _) (ones_sliceE _ _ _) (by unfold maxLen; omega) (by omega) (by simp; omega) ?_)
      intro y4 w4 hown4 hg4 hn4
      clear hn4
      have hb4 : Below w1.heap.size w1 w4 := (HB3.out.alloc hs3 (.cells #[.slice b R cb] 45)).grown hg4 (by simp; omega) (fun j hj => (HR3.out.lt j hj).1)
      have HR4 : Hid (w4.ownsRow w1.heap.size 45 1 y4 (k + 1) (sls.take k ++ [.slice b R cb])) := Lib.hid hown4
      have HB4 := Lib.hid hb4
      have hs4 := hb4.size
      have HC4 := Lib.hid (HC2.out.below hb4)
      clear hown4 hg4 hb4
      by_cases hck : ca = k
      · have HC5 : Hid (Cells w4 (some ⟨lb, 0, none⟩) (sls.drop k)) := Lib.hid (by
          have e : sls.drop k = [] := List.drop_eq_nil_of_le (by rw [HSL.out]; omega)
          rw [e]; exact Cells.nil _ _)
        go_wp2_with (at_builtin; refine wpList_append_src rfl (.tmp 43) (.tmp 46) 42 rfl w1.heap.size 45 j0 (.slice none 0 0) 1 24 Tryz.underlying42 hj0 yz0 yz1 yz2 rfl (by decide) y4 (k + 1) _ rfl HR4.out (some ⟨lb, 0, none⟩) (N - k) _ (sls.drop k) rfl HL2.out HC5.out HO2.out (by unfold maxLen; omega) (by omega) hs4 ?_)
        intro y5 w5 hown5 hg5 hn5
        clear hn5
        have hb5 : Below w1.heap.size w1 w5 := HB4.out.grown hg5 hs4 (fun j hj => (HR4.out.lt j hj).1)
        have HR5 : Hid (w5.ownsRow w1.heap.size 45 1 y5 (k + 1 + (N - k)) (sls.take k ++ .slice b R cb :: sls.drop k)) := Lib.hid (by simpa using hown5)
        have HB6 := Lib.hid (HB5.out.trans (hb5.mono HB5.out.size))
        have HG6 := Lib.hid hb5
        clear hown5 hg5 hb5
        go_wp2_with fail
        go_ret
        refine ⟨HB6.out, y5, rfl, ?_⟩
        exact rowsv_put HR5.out HPL.out HN.out HR.out hkN HSL.out (fun i l hi => by
          obtain ⟨h3, ad, cap, h4, h5⟩ := HGET.out i l hi
          exact ⟨h3, ad, cap, h4, h5.below HG6.out⟩) (by unfold maxLen; omega) (HD.out.below HB6.out)
      · go_wp2_with (at_builtin; refine wpList_append_src rfl (.tmp 43) (.tmp 46) 42 rfl w1.heap.size 45 j0 (.slice none 0 0) 1 24 Tryz.underlying42 hj0 yz0 yz1 yz2 rfl (by decide) y4 (k + 1) _ rfl HR4.out (some ⟨lb, k, none⟩) (N - k) _ (sls.drop k) rfl HL2.out HC4.out HO2.out (by unfold maxLen; omega) (by omega) hs4 ?_)
        intro y5 w5 hown5 hg5 hn5
        clear hn5
        have hb5 : Below w1.heap.size w1 w5 := HB4.out.grown hg5 hs4 (fun j hj => (HR4.out.lt j hj).1)
        have HR5 : Hid (w5.ownsRow w1.heap.size 45 1 y5 (k + 1 + (N - k)) (sls.take k ++ .slice b R cb :: sls.drop k)) := Lib.hid (by simpa using hown5)
        have HB6 := Lib.hid (HB5.out.trans (hb5.mono HB5.out.size))
        have HG6 := Lib.hid hb5
        clear hown5 hg5 hb5
        go_wp2_with fail
        go_ret
        refine ⟨HB6.out, y5, rfl, ?_⟩
        exact rowsv_put HR5.out HPL.out HN.out HR.out hkN HSL.out (fun i l hi => by
          obtain ⟨h3, ad, cap, h4, h5⟩ := HGET.out i l hi
          exact ⟨h3, ad, cap, h4, h5.below HG6.out⟩) (by unfold maxLen; omega) (HD.out.below HB6.out)
theorem putrow_ok (w : World) (v : Value) (L : List (List Int)) (b : Option Addr) (cb : Nat) (r : List Int) (hv : RowsV w v L) (hl : L.length ≤ 1024) (hr : r.length ≤ 1024) (hd : CellsT w b (zV r)) :
    Calls Tryz.prog 9 #[v, .slice b r.length cb] w fun e w' => Below w.heap.size w w' ∧ ∃ v, e = .returned v ∧ RowsV w' v (putL L r) := by
  rcases hv with ⟨rfl, rfl⟩ | ⟨lb, ca, rfl, h1, h2, h3, h4, h5⟩
  · exact putrow_nil w b cb r hr hd
  · exact putrow_some w lb ca L b cb r h1 hl h2 h3 h4 h5 hr hd
theorem RowsV.row {w : World} {v : Value} {L : List (List Int)} (h : RowsV w v L) {i : Nat} {r : List Int} (hr : L[i]? = some r) : ∃ lb ca ad cp, v = .slice (some ⟨lb, 0, none⟩) L.length ca ∧ lb < w.heap.size ∧ w.cell? ⟨lb, i, none⟩ = some (.slice ad r.length cp) ∧ CellsT w ad (zV r) := by
  rcases h with ⟨_, rfl⟩ | ⟨lb, ca, rfl, _, _, _, h4, h5⟩
  · cases hr
  · obtain ⟨b, off, ad, cp, e, hb, hc, hr2, _⟩ := h5.at_ hr
    injection e with e
    injection e with e1 e2 _
    subst e1 e2
    rw [Nat.zero_add] at hc
    exact ⟨lb, ca, ad, cp, rfl, h4, hc, hr2⟩
theorem RowsV.len_ {w : World} {v : Value} {L : List (List Int)} (h : RowsV w v L) : ∃ a c, v = .slice a L.length c := by
  rcases h with ⟨rfl, rfl⟩ | ⟨lb, ca, rfl, _⟩
  · exact ⟨_, _, rfl⟩
  · exact ⟨_, _, rfl⟩
/-- what PutRow leaves -/
def PutP (w : World) (L : List (List Int)) (e : Ending) (w' : World) : Prop := Below w.heap.size w w' ∧ ∃ v, e = .returned v ∧ RowsV w' v L
end Go.Proofs.YtobhjkfkdkiigaaGreatDoor
/- The reference's Drop. -/
import Derived.Test.YtdalnhhenahcjaaHashN
import Derived.Deep.RegionLaw
import Derived.Laws.ResultCell
namespace Go.Proofs.Ytdalnhhenahcjaa
open Go.RowKit HP
/-- append to a row of the call's own, as one step of a region that draws -/
theorem step_append_own {P : Program} {ops : Array Oper} {o : Oper} {a : Act} {w : World} {K : Act → World → Prop} {Q : Exit → Act → World → Prop} {E : Prop}
    (hg : o.guard = none) (s x : Operand) (t : TypeId) (hop : o.op = Op.call { callee := Callee.builtin Builtin.append, args := #[s, x], argTypes := #[t, t] })
    (base : Nat) (e : TypeId) (i : TypeInfo) (z : Value) (size bytes : Nat) (ht : P.underlying t = some (.slice e)) (hi : P.info? e = some i) (hz : i.zero = some z)
    (hsize : i.size = size) (hby : i.bytes = bytes) (hzs : z.cells.size = size) (hsz : 0 < size)
    (v : Value) (n : Nat) (xs : List Value) (hs : a.eval s = v) (hown : w.ownsRow base e size v n xs)
    (ad : Addr) (m c : Nat) (news : List Value) (hx : a.eval x = .slice (some ad) m c) (hl : news.length = m * size) (hnews : ∀ j u, news[j]? = some u → w.cell? (ad.add j) = some u) (h1 : ∀ u ∈ news, u.oneCell' = true)
    (h63 : n + m ≤ maxLen) (hbytes : (n + m) * bytes ≤ 140737488355328) (hbase : base ≤ w.heap.size)
    (h : ∀ v' w', w'.ownsRow base e size v' (n + m) (xs ++ news) → w.grownBy w' v.ownBlock → K (a.put o.dst v') w') :
    if Region.wanted o (yielded ops a.tmps) = true then Oper.wp P o a w K Q else E := by
  have hw : Region.wanted o (yielded ops a.tmps) = true := by simp [Region.wanted, hg]
  rw [if_pos hw]
  obtain ⟨v', w', hrun, r1, r2, r3⟩ := run_append_own (P := P) w base t o.type e i z size bytes ht hi hz hsize hby hzs hsz v n xs hown ad m c news hl hnews h1 h63 hbytes hbase
  unfold Oper.wp
  simp [execOp, hop, resolve, invoke, builtin, hs, hx, hrun, Result.andThen]
  exact h v' w' r1 r2
theorem own_ne_blk {w : World} {base e size n g : Nat} {v : Value} {xs : List Value} {t : TypeId} {cs : Array Value} (h : w.ownsRow base e size v n xs) (hb : Blk w g t cs) (hne : t ≠ e) : some g ≠ v.ownBlock := by
  intro he
  rcases h.2 with ⟨rfl, _⟩ | ⟨g', cap, cur, rfl, _, hgg, _⟩
  · simp [Value.ownBlock] at he
  · simp [Value.ownBlock] at he
    subst he
    unfold Blk at hb
    rw [hb] at hgg
    injection hgg with hgg
    injection hgg with _ h2 _
    exact hne h2
theorem own_ne_own {w : World} {base base' e e' size size' n n' : Nat} {v v' : Value} {xs xs' : List Value} (h : w.ownsRow base e size v n xs) (h' : w.ownsRow base' e' size' v' n' xs') (hne : e ≠ e') : v.ownBlock = none ∨ v.ownBlock ≠ v'.ownBlock := by
  rcases h.2 with ⟨rfl, _⟩ | ⟨g, cap, cur, rfl, _, hg, _⟩
  · left; rfl
  · right
    intro he
    rcases h'.2 with ⟨rfl, _⟩ | ⟨g', cap', cur', rfl, _, hg', _⟩
    · simp [Value.ownBlock] at he
    · simp [Value.ownBlock] at he
      subst he
      rw [hg] at hg'
      injection hg' with hgg
      injection hgg with _ h2 _
      exact hne h2
theorem own_shape {w : World} {B e size n : Nat} {v : Value} {xs : List Value} (h : w.ownsRow B e size v n xs) : ∃ oa cap, v = .slice oa n cap := by
  rcases h.2 with ⟨h1, h2⟩ | ⟨g, cap, cur, h1, _⟩
  · exact ⟨none, 0, by rw [h1, h2]⟩
  · exact ⟨_, _, h1⟩
theorem own_keep {w w' : World} {B e size n : Nat} {v : Value} {xs : List Value} (h : w.ownsRow B e size v n xs) (hk : ∀ g, v.ownBlock = some g → w'.heap[g]? = w.heap[g]?) : w'.ownsRow B e size v n xs := by
  refine ⟨h.1, ?_⟩
  rcases h.2 with hn | ⟨g, cap, cur, rfl, hg, hgg, rest⟩
  · exact .inl hn
  · exact .inr ⟨g, cap, cur, rfl, hg, by rw [hk g rfl]; exact hgg, rest⟩
/-- the state of Drop's loop: the given table's box, the result's box, the new table's box, its two rows -/
structure DR (w w1 wr : World) (ka va : Option Addr) (N kc vc : Nat) (v1 v2 : Value) (n1 n2 : Nat) (xs ys : List Value) : Prop where
  lt : w.heap.size + 2 < w1.heap.size
  tab : Blk wr w.heap.size 43 #[.slice ka N kc, .slice va N vc]
  res : Blk wr (w.heap.size + 1 + 1) 43 #[.slice none 0 0, .slice none 0 0]
  new : Blk wr w1.heap.size 43 #[v1, v2]
  own1 : wr.ownsRow w.heap.size 26 3 v1 n1 xs
  own2 : wr.ownsRow w.heap.size 3 1 v2 n2 ys
  bel : Below w.heap.size w wr
theorem DR.key {w w1 wr w2 : World} {ka va : Option Addr} {N kc vc : Nat} {v1 v2 v1' : Value} {n1 n2 m : Nat} {xs ys zs : List Value} (h : DR w w1 wr ka va N kc vc v1 v2 n1 n2 xs ys) (o : Obj)
    (hown : w2.ownsRow w.heap.size 26 3 v1' m zs) (hg : (wr.drew.alloc o).grownBy w2 v1.ownBlock) : DR w w1 (w2.setCell ⟨w1.heap.size, 0, none⟩ v1') ka va N kc vc v1' v2 m n2 zs ys := by
  have hN2 : Blk w2 w1.heap.size 43 #[v1, v2] := (h.new.drew_.alloc_ o).grown hg (own_ne_blk h.own1 h.new (by decide))
  have hT2 : Blk w2 w.heap.size 43 #[.slice ka N kc, .slice va N vc] := (h.tab.drew_.alloc_ o).grown hg (own_ne_blk h.own1 h.tab (by decide))
  have hR2 : Blk w2 (w.heap.size + 1 + 1) 43 #[.slice none 0 0, .slice none 0 0] := (h.res.drew_.alloc_ o).grown hg (own_ne_blk h.own1 h.res (by decide))
  have hO2 : w2.ownsRow w.heap.size 3 1 v2 n2 ys := World.ownsRow.kept (World.ownsRow.alloc (w := wr.drew) h.own2 o) hg (own_ne_own h.own2 h.own1 (by decide))
  have hlt := h.lt
  have hwr := h.bel.size
  refine ⟨h.lt, hT2.far (by show w.heap.size ≠ w1.heap.size; omega) _, hR2.far (by show w.heap.size + 1 + 1 ≠ w1.heap.size; omega) _, hN2.set_ 0 v1', ?_, ?_, ?_⟩
  · exact own_keep hown fun g hgg => Below.heap_setCell _ _ _ _ (fun he => own_ne_blk hown hN2 (by decide) (by rw [hgg, he]))
  · exact own_keep hO2 fun g hgg => Below.heap_setCell _ _ _ _ (fun he => own_ne_blk hO2 hN2 (by decide) (by rw [hgg, he]))
  · exact ((h.bel.drew.alloc hwr o).grown hg (by simp; omega) (fun j hj => (h.own1.lt j hj).1)).setCell (by show w.heap.size ≤ w1.heap.size; omega) _
theorem DR.val {w w1 wr w2 : World} {ka va : Option Addr} {N kc vc : Nat} {v1 v2 v2' : Value} {n1 n2 m : Nat} {xs ys zs : List Value} (h : DR w w1 wr ka va N kc vc v1 v2 n1 n2 xs ys) (o : Obj)
    (hown : w2.ownsRow w.heap.size 3 1 v2' m zs) (hg : (wr.drew.alloc o).grownBy w2 v2.ownBlock) : DR w w1 (w2.setCell ⟨w1.heap.size, 1, none⟩ v2') ka va N kc vc v1 v2' n1 m xs zs := by
  have hN2 : Blk w2 w1.heap.size 43 #[v1, v2] := (h.new.drew_.alloc_ o).grown hg (own_ne_blk h.own2 h.new (by decide))
  have hT2 : Blk w2 w.heap.size 43 #[.slice ka N kc, .slice va N vc] := (h.tab.drew_.alloc_ o).grown hg (own_ne_blk h.own2 h.tab (by decide))
  have hR2 : Blk w2 (w.heap.size + 1 + 1) 43 #[.slice none 0 0, .slice none 0 0] := (h.res.drew_.alloc_ o).grown hg (own_ne_blk h.own2 h.res (by decide))
  have hO1 : w2.ownsRow w.heap.size 26 3 v1 n1 xs := World.ownsRow.kept (World.ownsRow.alloc (w := wr.drew) h.own1 o) hg (own_ne_own h.own1 h.own2 (by decide))
  have hlt := h.lt
  have hwr := h.bel.size
  refine ⟨h.lt, hT2.far (by show w.heap.size ≠ w1.heap.size; omega) _, hR2.far (by show w.heap.size + 1 + 1 ≠ w1.heap.size; omega) _, hN2.set_ 1 v2', ?_, ?_, ?_⟩
  · exact own_keep hO1 fun g hgg => Below.heap_setCell _ _ _ _ (fun he => own_ne_blk hO1 hN2 (by decide) (by rw [hgg, he]))
  · exact own_keep hown fun g hgg => Below.heap_setCell _ _ _ _ (fun he => own_ne_blk hown hN2 (by decide) (by rw [hgg, he]))
  · exact ((h.bel.drew.alloc hwr o).grown hg (by simp; omega) (fun j hj => (h.own2.lt j hj).1)).setCell (by show w.heap.size ≤ w1.heap.size; omega) _
def dropL (L : List (Key × Int)) (c : Key) : List (Key × Int) := L.eraseIdx (fk L c)
theorem erase_take (L : List (Key × Int)) (f i : Nat) (hi : i < L.length) : (L.take (i + 1)).eraseIdx f = if i = f then (L.take i).eraseIdx f else (L.take i).eraseIdx f ++ [L[i]] := by
  have e : L.take (i + 1) = L.take i ++ [L[i]] := by rw [List.take_add_one, List.getElem?_eq_getElem hi]; rfl
  have hlen : (L.take i).length = i := by rw [List.length_take]; omega
  rw [e]
  by_cases h : f < i
  · rw [if_neg (by omega), List.eraseIdx_append_of_lt_length (by omega)]
  · rw [List.eraseIdx_append_of_length_le (by omega), hlen]
    have ee : (L.take i).eraseIdx f = L.take i := List.eraseIdx_of_length_le (by omega)
    by_cases h2 : i = f
    · rw [if_pos h2, ee, show f - i = 0 by omega]; simp
    · rw [if_neg h2, ee]
      obtain ⟨d, hd⟩ : ∃ d, f - i = d + 1 := ⟨f - i - 1, by omega⟩
      rw [hd]; simp
theorem info_key : (Try.prog.info? 26).map (fun i => (i.zero, i.size, i.bytes)) = some (some (.agg #[.int .i64 0, .int .i64 0, .int .i64 0]), 3, 24) := by kernel_rfl
end Go.Proofs.Ytdalnhhenahcjaa

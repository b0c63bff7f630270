/- A map that the call made, as a function of its keys (MapAt): look-up, update, length as laws of the walk. -/
import Derived.Test.YtobhjkfkdkiigaaGreatDoorKp
import Derived.Maps.OwnSet
namespace Go.Proofs.YtobhjkfkdkiigaaGreatDoor
open Go.RowKit
open Go.Maps (Keyed has size)
theorem grown_trans {a b c : World} {row : Option Nat} (h : a.grownBy b row) (k : b.grownBy c row) : a.grownBy c row :=
  ⟨k.os.trans h.os, k.tape.trans h.tape, k.output.trans h.output, Nat.le_trans h.size k.size, fun i hi hn => (k.block i (Nat.lt_of_lt_of_le hi h.size) hn).trans (h.block i hi hn)⟩
/-- an element reads as itself -/
def hR (v : Value) : Option (DataW Value × List MemPlace) := some (.held v, [])
theorem hR_inv {v u : Value} {ps : List MemPlace} (h : hR v = some (.held u, ps)) : v = u := by
  unfold hR at h; injection h with h; injection h with h _; injection h
def atF (F : Lit → Option Value) (l : Lit) (z : Value) : Value := (F l).getD z
def setF (F : Lit → Option Value) (l : Lit) (v : Value) : Lit → Option Value := fun l' => if l'.sameKey l then some v else F l'
theorem sameKey_self {l : Lit} (h : WideAt.IsKeyLit l) : l.sameKey l = true := by
  cases l <;> simp_all [WideAt.IsKeyLit, Lit.sameKey]
/-- block b is a map of n entries with keys of type k: what F says -/
def MapAt (w : World) (P : Program) (k : TypeId) (b n : Nat) (F : Lit → Option Value) : Prop :=
  ∃ D, w.ownsMap P k hR b n D ∧ size D = n ∧ ∀ l, has D l = (F l).isSome ∧ ∀ z, D.atKey l (.held z) = .held (atF F l z)
section
variable {w : World} {P : Program} {k : TypeId} {b n : Nat} {F : Lit → Option Value}
theorem MapAt.made (w : World) (P : Program) (k : TypeId) : MapAt (w.alloc (.map #[] 0)) P k w.heap.size 0 (fun _ => none) :=
  ⟨_, World.ownsMap_made w P k hR, rfl, fun _ => ⟨rfl, fun _ => rfl⟩⟩
theorem MapAt.lt (h : MapAt w P k b n F) : b < w.heap.size := by obtain ⟨D, h, _⟩ := h; exact h.lt
theorem MapAt.block (h : MapAt w P k b n F) : ∃ es c, w.heap[b]? = some (.map es c) := by obtain ⟨D, ⟨es, c, h, _⟩, _⟩ := h; exact ⟨es, c, h⟩
theorem MapAt.keep {w' : World} (h : MapAt w P k b n F) (hb : w'.heap[b]? = w.heap[b]?) : MapAt w' P k b n F := by
  obtain ⟨D, ⟨es, c, h1, h2⟩, h3⟩ := h
  exact ⟨D, ⟨es, c, hb.trans h1, h2⟩, h3⟩
theorem MapAt.below {w' : World} (h : MapAt w P k b n F) (hb : Below w.heap.size w w') : MapAt w' P k b n F := h.keep (hb.block b h.lt)
theorem MapAt.kp {T : TypeId → Bool} {B : Nat} {w' : World} (h : MapAt w P k b n F) (hk : Kp T B w w') : MapAt w' P k b n F := h.keep (hk.block b h.lt (by
  obtain ⟨es, c, hb⟩ := h.block
  rintro ⟨_, cs, t, f, h2, _⟩
  rw [hb] at h2; cases h2))
theorem MapAt.kb (h : MapAt w P k b n F) {w' : World} (hg : w.grownBy w' (some b)) (T : TypeId → Bool) : Kb T w w' := by
  obtain ⟨es, c, hb⟩ := h.block; exact Kb.map hb hg T
/-- maps in other blocks -/
theorem MapAt.grown {w' : World} {row : Option Nat} (h : MapAt w P k b n F) (hg : w.grownBy w' row) (hne : some b ≠ row) : MapAt w' P k b n F := h.keep (hg.block b h.lt hne)
variable {ops : Array Oper} {rest : List Oper} {o : Oper} {a : Act} {Q : Exit → Act → World → Prop}
theorem wpList_mlook (hg : o.guard = none) (m x : Operand) (t : TypeId) (hop : o.op = Op.lookup t m x false) (e : TypeId) (K : Keyed P k) (ht : P.underlying t = some (.map k e)) {z : Value} (hz : (zeroValue e).run P w = .ok z w)
    (hm : a.eval m = .map (some b)) (h : MapAt w P k b n F) (key : Value) (kl : Lit) (hx : a.eval x = key) (hkey : keyOf P k key = some kl)
    (hK : wpList P ops Q rest (a.put o.dst (atF F kl z)) w) : wpList P ops Q (o :: rest) a w := by
  refine wpList_plain hg fun K' hK' => ?_
  obtain ⟨D, hown, _, hv⟩ := h
  obtain ⟨v, ps, hrun, hr⟩ := hown.lookup K ht hz (zd := .held z) (zp := []) rfl hkey
  rw [(hv kl).2 z] at hr
  have := hR_inv hr
  subst this
  unfold Oper.wp
  simp [execOp, hop, hm, hx, hrun, Result.andThen]
  exact hK' _ _ hK
theorem wpList_mlook_ok (hg : o.guard = none) (m x : Operand) (t : TypeId) (hop : o.op = Op.lookup t m x true) (e : TypeId) (K : Keyed P k) (ht : P.underlying t = some (.map k e)) {z : Value} (hz : (zeroValue e).run P w = .ok z w)
    (hm : a.eval m = .map (some b)) (h : MapAt w P k b n F) (key : Value) (kl : Lit) (hx : a.eval x = key) (hkey : keyOf P k key = some kl)
    (hK : wpList P ops Q rest (a.put o.dst (.tuple #[atF F kl z, .bool (F kl).isSome])) w) : wpList P ops Q (o :: rest) a w := by
  refine wpList_plain hg fun K' hK' => ?_
  obtain ⟨D, hown, _, hv⟩ := h
  obtain ⟨v, ps, hrun, hr⟩ := hown.look_ok K ht hz (zd := .held z) (zp := []) rfl hkey
  rw [(hv kl).2 z] at hr
  have := hR_inv hr
  subst this
  rw [(hv kl).1] at hrun
  unfold Oper.wp
  simp [execOp, hop, hm, hx, hrun, Result.andThen]
  exact hK' _ _ hK
theorem wpList_mset (hg : o.guard = none) (m x v : Operand) (t : TypeId) (hop : o.op = Op.mapUpdate t m x v) (e : TypeId) (K : Keyed P k) (ht : P.underlying t = some (.map k e))
    (hm : a.eval m = .map (some b)) (h : MapAt w P k b n F) (hn : n < maxLen) (key val : Value) (kl : Lit) (hx : a.eval x = key) (hv : a.eval v = val) (hkey : keyOf P k key = some kl)
    (hK : ∀ w', MapAt w' P k b (if (F kl).isSome then n else n + 1) (setF F kl val) → w.grownBy w' (some b) → wpList P ops Q rest (a.put o.dst undef) w') : wpList P ops Q (o :: rest) a w := by
  refine wpList_plain hg fun K' hK' => ?_
  obtain ⟨D, hown, hs, hvw⟩ := h
  obtain ⟨w', hrun, r1, r2⟩ := hown.update K ht hn hkey (d := .held val) (ps := []) rfl
  unfold Oper.wp
  simp [execOp, hop, hm, hx, hv, hrun, Result.andThen]
  have hsz : size (D.put kl (.held val)) = if (F kl).isSome then n else n + 1 := by
    rw [Maps.size_put (hown.tidy K), (hvw kl).1, hs]
  refine hK' _ _ (hK w' ⟨D.put kl (.held val), ?_, hsz, fun l => ?_⟩ r2)
  · obtain ⟨es, c, hb, hF, hle, hD⟩ := r1
    refine ⟨es, c, hb, hF, ?_, hD⟩
    rw [← hsz, hD, Maps.size_eq]
    simp [length_sorted]
  · have hkl := K.key hkey
    unfold setF atF
    by_cases e : l = kl
    · subst e
      rw [Maps.has_put_same hown.isMap hkl]
      simp [Maps.atKey_put_same hown.isMap hkl, sameKey_self hkl]
    · rw [Maps.has_put_other e, (hvw l).1]
      simp only [Maps.sameKey_ne e, Bool.false_eq_true, if_false]
      exact ⟨trivial, fun z => by rw [Maps.atKey_put_other e, (hvw l).2 z]; rfl⟩
theorem wpList_msetn (hg : o.guard = none) (m x v : Operand) (t : TypeId) (hop : o.op = Op.mapUpdate t m x v) (e : TypeId) (K : Keyed P k) (ht : P.underlying t = some (.map k e))
    (hm : a.eval m = .map (some b)) (h : MapAt w P k b n F) (hn : n < maxLen) (key val : Value) (kl : Lit) (hx : a.eval x = key) (hv : a.eval v = val) (hkey : keyOf P k key = some kl) (n' : Nat) (hn' : (if (F kl).isSome then n else n + 1) = n')
    (hK : ∀ w', MapAt w' P k b n' (setF F kl val) → w.grownBy w' (some b) → wpList P ops Q rest (a.put o.dst undef) w') : wpList P ops Q (o :: rest) a w :=
  wpList_mset hg m x v t hop e K ht hm h hn key val kl hx hv hkey (by rw [hn']; exact hK)
theorem wpList_mlen (hg : o.guard = none) (m : Operand) (t : TypeId) (hop : o.op = Op.call { callee := Callee.builtin Builtin.len, args := #[m], argTypes := #[t] })
    (e : TypeId) (ht : P.underlying t = some (.map k e)) (hm : a.eval m = .map (some b)) (h : MapAt w P k b n F)
    (hK : wpList P ops Q rest (a.put o.dst (.int .i64 (n : Int))) w) : wpList P ops Q (o :: rest) a w := by
  obtain ⟨D, hown, hs, _⟩ := h
  refine wpList_len_own w hg m t hop k e ht hR b n D hm hown ?_
  rw [hs]; exact hK
end
end Go.Proofs.YtobhjkfkdkiigaaGreatDoor

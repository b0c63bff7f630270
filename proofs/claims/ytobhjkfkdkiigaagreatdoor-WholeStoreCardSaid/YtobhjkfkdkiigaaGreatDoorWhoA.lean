/- WholeStore: the rows of pairs; pins and sweeps of a space's store. 
 WholeStore: the wrap for a row that lists variables and looks at the world's shape. -/
import Derived.Test.YtobhjkfkdkiigaaGreatDoorRelN
import Derived.Test.YtobhjkfkdkiigaaGreatDoorTupQ
import Derived.Test.YtobhjkfkdkiigaaGreatDoorTupP
import Derived.Test.YtobhjkfkdkiigaaGreatDoorCountJ
import Derived.Test.YtobhjkfkdkiigaaGreatDoorLayC
import Derived.Test.YtobhjkfkdkiigaaGreatDoorOpen
import Derived.Shelf.Vars
import Derived.HandedShaped
import Derived.Lay
import Derived.LaidMore
import Derived.ProofKit
import Derived.OpenShut
import Derived.Stop.Joined
namespace Go.Proofs.YtobhjkfkdkiigaaGreatDoor
open Go.RowKit HP NP LY
/-- a number's last two bits -/
def m3 (x : Int) : Nat := ((BitVec.ofInt 64 x) &&& (BitVec.ofInt 64 3)).toNat
theorem m3_lt (x : Int) : m3 x < 4 := by
  unfold m3
  rw [BitVec.toNat_and]
  have h : (BitVec.ofInt 64 3).toNat = 3 := by decide
  have := Nat.and_le_right (n := (BitVec.ofInt 64 x).toNat) (m := (BitVec.ofInt 64 3).toNat)
  omega
theorem m3_ok (x : Int) : bits .and .i64 x 3 = ((m3 x : Nat) : Int) := by
  have h := m3_lt x
  show IntKind.i64.wrap (((BitVec.ofInt 64 x) &&& (BitVec.ofInt 64 3)).toNat : Int) = _
  rw [IntKind.wrap_i64]
  unfold m3 at h ⊢
  omega
def rowP (x : Int × Int) : List Int := [((m3 x.1 : Nat) : Int), ((m3 x.2 : Nat) : Int)]
/-- the rows of pairs, rising, once each -/
def rowsW (l : List (Int × Int)) : List (List Int) := l.foldl (fun L x => putL L (rowP x)) []
theorem rowsW_snoc (l : List (Int × Int)) (x : Int × Int) : rowsW (l ++ [x]) = putL (rowsW l) (rowP x) := by unfold rowsW; rw [List.foldl_append]; rfl
theorem rowsW_next {l : List (Int × Int)} {i : Nat} {x : Int × Int} (h : l[i]? = some x) : rowsW (l.take (i + 1)) = putL (rowsW (l.take i)) (rowP x) := by
  rw [List.take_add_one, h]; exact rowsW_snoc _ _
theorem list_snoc_ind {α : Type} {P : List α → Prop} (h0 : P []) (h1 : ∀ l x, P l → P (l ++ [x])) (l : List α) : P l := by
  have key : ∀ m : List α, P m.reverse := by
    intro m
    induction m with
    | nil => exact h0
    | cons x t ih => rw [List.reverse_cons]; exact h1 _ _ ih
  have := key l.reverse
  rwa [List.reverse_reverse] at this
theorem rowsW_sorted (l : List (Int × Int)) : (rowsW l).Pairwise fun a b => lessL a b = true := by
  refine list_snoc_ind (P := fun l => (rowsW l).Pairwise fun a b => lessL a b = true) ?_ (fun l x ih => ?_) l
  · exact List.Pairwise.nil
  · rw [rowsW_snoc]; exact putL_sorted _ _ ih
theorem rowsW_form (l : List (Int × Int)) : ∀ r ∈ rowsW l, ∃ a b : Nat, a < 4 ∧ b < 4 ∧ r = [(a : Int), (b : Int)] := by
  refine list_snoc_ind (P := fun l => ∀ r ∈ rowsW l, ∃ a b : Nat, a < 4 ∧ b < 4 ∧ r = [(a : Int), (b : Int)]) ?_ (fun l x ih => ?_) l
  · intro r hr; cases hr
  · intro r hr
    rw [rowsW_snoc] at hr
    rcases (putL_mem _ _ _).1 hr with h | h
    · exact ih r h
    · exact ⟨m3 x.1, m3 x.2, m3_lt _, m3_lt _, h⟩
theorem rowsW_len (l : List (Int × Int)) : (rowsW l).length ≤ 16 := by
  have hn : (rowsW l).Nodup := (rowsW_sorted l).imp fun {a b} h e => by rw [e, lessL_irr] at h; cases h
  have := List.Nodup.length_le_of_subset (l₂ := (List.range 16).map fun r => zN (rowN r)) hn (fun r hr => by
    obtain ⟨a, b, ha, hb, rfl⟩ := rowsW_form l r hr
    refine List.mem_map.2 ⟨a + 4 * b, List.mem_range.2 (by omega), ?_⟩
    unfold rowN
    rw [show (a + 4 * b) % 4 = a by omega, show (a + 4 * b) / 4 = b by omega]
    rfl)
  rwa [List.length_map, List.length_range] at this
/-- the same, as plain numbers -/
def rowsN (l : List (Int × Int)) : List (List Nat) := (rowsW l).map fun r => r.map Int.toNat
theorem rowsN_zN (l : List (Int × Int)) : (rowsN l).map zN = rowsW l := by
  unfold rowsN
  rw [List.map_map]
  have : ∀ r ∈ rowsW l, (zN ∘ fun r : List Int => r.map Int.toNat) r = r := fun r hr => by
    obtain ⟨a, b, _, _, rfl⟩ := rowsW_form l r hr
    rfl
  rw [List.map_congr_left this, List.map_id']
theorem rowsN_ok (l : List (Int × Int)) : ∀ t ∈ rowsN l, t.length = 2 ∧ ∀ v ∈ t, v < 4 := fun t ht => by
  obtain ⟨r, hr, rfl⟩ := List.mem_map.1 ht
  obtain ⟨a, b, ha, hb, rfl⟩ := rowsW_form l r hr
  refine ⟨rfl, fun v hv => ?_⟩
  simp at hv
  rcases hv with rfl | rfl <;> assumption
theorem rowsN_len (l : List (Int × Int)) : (rowsN l).length = (rowsW l).length := List.length_map ..
theorem Cells.pair {w : World} {a : Option Addr} {es : List (Int × Int)} (h : Cells w a (es.flatMap pairCells)) {i : Nat} {x : Int × Int} (hx : es[i]? = some x) :
    ∃ b off, a = some ⟨b, off, none⟩ ∧ b < w.heap.size ∧ w.cell? ⟨b, off + i * 2, none⟩ = some (.int .i64 x.1) ∧ w.cell? ⟨b, off + i * 2 + 1, none⟩ = some (.int .i64 x.2) := by
  have g0 := flat_get pairCells 2 (fun _ => rfl) es i 0 x _ hx rfl
  have g1 := flat_get pairCells 2 (fun _ => rfl) es i 1 x _ hx rfl
  obtain ⟨b, off, e, hb, hh⟩ := h (by intro h0; rw [h0] at g0; simp at g0)
  exact ⟨b, off, e, hb, hh _ _ g0, hh _ _ g1⟩
theorem RowsV.val {w : World} {v : Value} {L : List (List Int)} (h : RowsV w v L) : ∃ ta tc, v = .slice ta L.length tc ∧ (0 < L.length → RowsT w ta L) := by
  rcases h with ⟨rfl, rfl⟩ | ⟨lb, ca, h1, _, _, _, _, h6⟩
  · exact ⟨none, 0, rfl, fun h => by simp at h⟩
  · exact ⟨_, ca, h1, fun _ => h6⟩
/-! ### pins and sweeps -/
theorem OpsM.alk {w : World} {B p q : Nat} {S S' : NS} (h : OpsM w B p q S) (ha : Alk S.l S'.l) (hs : S'.sweeps = S.sweeps) : OpsM w B p q S' := by
  obtain ⟨a, b, h⟩ := h
  refine ⟨a, by omega, ?_⟩
  rcases h with h | ⟨g, C, s0, c1, c2, c3, c4, c5⟩
  · exact .inl h
  · exact .inr ⟨g, C, s0, c1, c2, c3, by omega, fun e i hi => (c5 (by omega) i hi).alk ha⟩
theorem NP.Rc.alk {l l' : List Nd} (h : Alk l l') {k j : Nat} (hr : Rc l k j) : Rc l' k j := by
  induction hr with
  | here k => exact .here _
  | low h2 _ ih => exact .low h2 (by rw [h.low]; exact ih)
  | high h2 _ ih => exact .high h2 (by rw [h.high]; exact ih)
theorem OkMask.alk {S S' : NS} {k x : Nat} (h : OkMask S k x) (ha : Alk S.l S'.l) : OkMask S' k x := ⟨h.1, fun v hv => by
  obtain ⟨j, a, b, c, d⟩ := h.2 v hv
  exact ⟨j, Rc.alk ha a, b, by rw [ha.is]; exact c, by rw [ha.v]; exact d⟩⟩
theorem AskAt.alk {w : World} {mb : Nat} {S S' : NS} {m : Nat → Option Nat} (h : AskAt w mb S m) (ha : Alk S.l S'.l) : AskAt w mb S' m := ⟨h.map, fun k x hk => ⟨by rw [ha.is]; exact (h.ok k x hk).1, (h.ok k x hk).2.alk ha⟩⟩
theorem Rl.pinned {w w' : World} {B p q qn cb xb : Nat} {S S' : NS} (h : Rl w B p q qn cb xb S) (hs : Sto w' B p S') (hk : Kp TN B w w') (ha : Alk S.l S'.l) (hv : S'.vars = S.vars) (hsw : S'.sweeps = S.sweeps) : Rl w' B p q qn cb xb S' := by
  obtain ⟨a, b, c, za, zc, ma, swp, h1, h2, h3, h4⟩ := h
  have hk' : Kp TO B w w' := hk.mono to_tn (Nat.le_refl _)
  refine ⟨⟨hs, (a.ops.kb hk.kb rfl rfl).alk ha hsw, hk'.blk a.qu rfl, a.code.tn hk', by rw [hv]; exact a.v8, Nat.le_trans a.low hk.size⟩, b, by rw [hsw]; exact c, za, zc, ma, swp, hk'.blk h1 rfl, h2.kb hk'.kb rfl, by rw [hsw]; exact h3, fun mb e => ⟨(h4 mb e).1, fun hs' => ?_⟩⟩
  obtain ⟨m, hat⟩ := (h4 mb e).2 (by rw [← hsw]; exact hs')
  exact ⟨m, (hat.kp hk').alk ha⟩
theorem Rl.swept {w w' : World} {B p q qn cb xb : Nat} {S : NS} {s : Nat → Bool} (h : Rl w B p q qn cb xb S) (hs : Sto w' B p (swS S s)) (hk : Kp TN B w w') (hlt : S.sweeps + 1 < 1048576) : Rl w' B p q qn cb xb (swS S s) := by
  obtain ⟨a, b, c, za, zc, ma, swp, h1, h2, h3, h4⟩ := h
  have hk' : Kp TO B w w' := hk.mono to_tn (Nat.le_refl _)
  refine ⟨⟨hs, (a.ops.kb hk.kb rfl rfl).sweep (by show S.sweeps < S.sweeps + 1; omega) (by show S.sweeps + 1 < _; omega), hk'.blk a.qu rfl, a.code.tn hk', a.v8, Nat.le_trans a.low hk.size⟩, b, hlt, za, zc, ma, swp, hk'.blk h1 rfl, h2.kb hk'.kb rfl, by show swp ≤ S.sweeps + 1; omega, fun mb e => ⟨(h4 mb e).1, fun hs' => ?_⟩⟩
  have : swp = S.sweeps + 1 := hs'
  omega
theorem pin9_ok (w : World) (B p q qn cb xb : Nat) (S : NS) (h : Rl w B p q qn cb xb S) (k : Nat) (hk : isB S.l k = true) (hp : (nd S.l k).pins < 1073741824) :
    Calls Tryz.prog 11 #[.pointer (some ⟨p, 0, none⟩), .int .i64 (k : Int)] w fun e w' => e = .returned (.int .i64 0) ∧ ∃ S' : NS, Rl w' B p q qn cb xb S' ∧ Kp TN B w w' ∧ Alk S.l S'.l ∧ S'.budget = S.budget ∧ S'.sweeps = S.sweeps ∧ 0 < (nd S'.l k).pins := by
  have hl := isB_lt hk
  have e : pinS S (k : Int) = ({ S with l := pinN S.l k ((nd S.l k).pins + 1) }, 0) := by
    unfold pinS
    rw [isK_nat, hk, if_pos rfl, Int.toNat_natCast, if_neg (by omega)]
  refine (npin_ok w B p S h.cd.sto (k : Int)).mono ?_
  rintro e' w' ⟨rfl, hs, hk3⟩
  rw [e] at hs ⊢
  have ha := Alk.pin hl ((nd S.l k).pins + 1)
  refine ⟨rfl, _, h.pinned hs hk3 ha rfl rfl, hk3, ha, rfl, rfl, ?_⟩
  show 0 < (nd (pinN _ _ _) k).pins
  rw [nd_pin hl, if_pos rfl]; show 0 < (nd S.l k).pins + 1; omega
theorem sweep9_ok (w : World) (B p q qn cb xb : Nat) (S : NS) (h : Rl w B p q qn cb xb S) (hlt : S.sweeps + 1 < 1048576) :
    Calls Tryz.prog 14 #[.pointer (some ⟨p, 0, none⟩)] w fun e w' => ∃ n : Int, e = .returned (.int .i64 n) ∧ ∃ S' : NS, Rl w' B p q qn cb xb S' ∧ Kp TN B w w' ∧ S'.budget = S.budget ∧ S'.sweeps = S.sweeps + 1 ∧ NP.cnt S'.l ≤ NP.cnt S.l ∧ ∀ (k : Nat) (g : (Nat → Bool) → Bool), Den S k g → 0 < (nd S.l k).pins → Den S' k g ∧ 0 < (nd S'.l k).pins := by
  refine (nsweep_ok w B p S h.cd.sto h.cd.low).mono ?_
  rintro e w' ⟨s, hm, rfl, hs, hk⟩
  exact ⟨_, rfl, swS S s, h.swept hs hk hlt, hk, rfl, rfl, cnt_swp_le S.l s 1, fun k g hd hp => swS_den h.cd.sto.wf hs.wf hm hd hp⟩
/-- a relation in a store that has gone on -/
theorem RelOk.re {T : TypeId → Bool} {w w' : World} {S S' : NS} {r : RD} {g : (Nat → Bool) → Bool} (h : RelOk w S r) (hk : Kb T w w') (h1 : T 9 = false) (h2 : T 3 = false) (hd : Den S' r.k g) (hg : Dep (VD r.ds) g) : RelOk w' S' r :=
  ⟨h.an, h.dn, h.ac.kb h.at_ hk h1, h.at_.kb hk h1, h.dc.kb hk h2, h.nm, h.d4, h.dd, hd.is, hd.dep hg⟩
theorem newS_pins (j : Nat) : (nd (newS 8 4000).l j).pins ≤ 0 := by
  rcases Nat.lt_or_ge j 2 with h | h
  · rcases (by omega : j = 0 ∨ j = 1) with rfl | rfl <;> exact Nat.le_refl _
  · rw [show nd (newS 8 4000).l j = Nd.no from nd_ge (by simpa [newS, base2] using h)]
    exact Nat.le_refl _
theorem rowsN_16 (l : List (Int × Int)) : (rowsN l).length ≤ 16 := by rw [rowsN_len]; exact rowsW_len l
/-- Make of the rows of pairs -/
theorem make9 (W : World) (B p q qn cb xb : Nat) (S : NS) (h : Rl W B p q qn cb xb S) (la : Option Addr) (lc : Nat) (s0 s1 : ByteArray) (hl : NmOk [s0, s1]) (hlc : Cells W la ([s0, s1].map Value.string)) (da : Option Addr) (dc d0 d1 : Nat) (hd0 : d0 < 4) (hd1 : d1 < 4) (hdd : d0 ≠ d1) (hdc : CellsT W da (zV (zN [d0, d1]))) (ta : Option Addr) (tc : Nat) (l : List (Int × Int)) (htc : 0 < (rowsN l).length → RowsT W ta ((rowsN l).map zN)) (hr : NP.cnt S.l + 304 ≤ S.budget) :
    Calls Tryz.prog 10 #[.pointer (some ⟨xb, 0, none⟩), .slice la 2 lc, .slice da 2 dc, .slice ta (rowsN l).length tc] W fun e w' => ∃ (S' : NS) (aa : Option Addr) (ac : Nat) (ad : Option Addr) (ac' k : Nat), e = .returned (.tuple #[.agg #[.slice aa 2 ac, .slice ad 2 ac', .int .i64 (k : Int)], .int .i64 0]) ∧ RelOk w' S' ⟨aa, ac, ad, ac', 2, [s0, s1], [d0, d1], k⟩ ∧ Rl w' B p q qn cb xb S' ∧ Ks TX' B W w' ∧ GotOk S (rowsG [d0, d1] (rowsN l)) 304 S' k := by
  have h16 := rowsN_16 l
  have hm : (rowsN l).length * 19 ≤ 304 := by omega
  refine (make_ok' W B p q qn cb xb S h la lc [s0, s1] hl hlc da dc [d0, d1] hdc rfl rfl (fun d hd => by
    simp at hd
    rcases hd with rfl | rfl <;> assumption) (by simp [hdd]) ta tc (rowsN l).length (rowsN l) rfl h16 (rowsN_ok l) htc (by omega)).mono ?_
  rintro e w' ⟨S', r, rfl, h1, h2, h3, h4, h5, h6⟩
  obtain ⟨aa, ac, ad, ac', n, nms, ds, k⟩ := r
  simp only at h1 h2
  subst h1 h2
  have hn : n = 2 := (h3.an).symm
  subst hn
  exact ⟨S', aa, ac, ad, ac', k, rfl, h3, h4, h5, h6.mono hm⟩
theorem nm_xy9 : NmOk [sX, sY] := ⟨by decide, by decide, by decide⟩
theorem nm_yz9 : NmOk [sY, sZ] := ⟨by decide, by decide, by decide⟩
theorem got_rows {S : NS} {k : Nat} {l : List (Int × Int)} {R : List (List Int)} (hd : ∀ ρ, den S.l ρ k = rowsG [0, 1] (rowsN l) ρ) (hp : R.Perm ((numR S k).map fun r => zN (rowN r))) (hs : R.Pairwise fun a b => lessL b a = false) : R = rowsW l := by
  refine rows_sorted (rowsW_sorted l) (hp.nodup_iff.2 (rowsR_nodup S k)) hs fun t => ?_
  rw [hp.mem_iff, ← rowsN_zN l, List.mem_map, List.mem_map]
  have key := rowsR_mem (rowsN_ok l) hd
  constructor
  · rintro ⟨r, hr, rfl⟩
    exact ⟨rowN r, (key _).1 (List.mem_map.2 ⟨r, hr, rfl⟩), rfl⟩
  · rintro ⟨s, hs, rfl⟩
    obtain ⟨r, hr, rfl⟩ := List.mem_map.1 ((key _).2 hs)
    exact ⟨r, hr, rfl⟩
theorem Rows2T.at_ {w : World} {a : Option Addr} {sls : List Value} {R : List (List Int)} (hc : Cells w a sls) (h : Rows2T w sls R) : RowsAt w a R :=
  ⟨sls, hc, fun i l hi => by
    obtain ⟨h2, ad, c, hs, hl⟩ := h i l hi
    exact ⟨by rw [h2]; decide, ad, c, by rw [h2]; exact hs, hl.c⟩⟩
theorem rowsAt_of {w : World} {a : Option Addr} {L : List (List Int)} (h : 0 < L.length → RowsT w a L) : RowsAt w a L := by
  rcases Nat.eq_zero_or_pos L.length with h0 | h0
  · rw [List.length_eq_zero_iff.1 h0]
    exact ⟨[], fun hn => absurd rfl hn, fun i l hi => by simp at hi⟩
  · obtain ⟨sls, ⟨h1, _⟩, h2⟩ := h h0
    exact ⟨sls, h1, fun i l hi => by
      obtain ⟨h3, ad, c, h4, h5⟩ := h2 i l hi
      exact ⟨h3, ad, c, h4, h5.c⟩⟩
end Go.Proofs.YtobhjkfkdkiigaaGreatDoor

namespace Go.Proofs.YtobhjkfkdkiigaaGreatDoor
open Go.RowKit LY
/-- what the rows list -/
def laidL : List (String × DataW Unit) := [("unicode/utf8.acceptRanges", Rows.laid_unicode_utf8_acceptRanges), ("unicode/utf8.first", Rows.laid_unicode_utf8_first)]
theorem maxL_of {W : World} (h : W.ShapedOpen Tryz.prog) : MaxL W := by
  exact cell_of_shapedOpen_int (zero := #[.int .i64 0]) (t := 3) h (of_decide_eq_true (by kernel_rfl)) (by kernel_rfl) rfl (by kernel_rfl) (by kernel_rfl) Tryz.underlying3
/-- a row that lists variables: what is listed is met, and the world has its shape -/
theorem returns_and_shaped {H : Type} {enc : TypeId × Value → H} {a : Assume} {C : Checked} {os : Os} {f : FuncId} {fn : Func} {s : ChangeSpec} {conds : List PathCond} {apart fresh handsOn again : Bool} {X : World → Array Value → Prop}
    (hX : ∀ (w w' : World) (args : Array Value), w.heap = w'.heap → X w args → X w' args)
    (own : ownKnob C.prog.godebug = none) (started : os.Started) (noInit : C.prog.inits.idxOf? f = none) (hfn : C.prog.funcs[f]? = some fn)
    (witness : ∃ (w : World) (tape : Tape) (i : Input), w.os = os ∧ (w.forCall tape i).Shaped C.prog ∧ i.vars = [] ∧ Input.okWide C.prog (w.forCall tape i) .any w.heap.size f i ∧
      ((s.pre enc C.prog fn conds apart (w.forCall tape i).memory i.args ∧ X (w.forCall tape i).memory i.args) ∧ sizedMet enc C.prog fn (OpenSpec.ofChange s) apart (w.forCall tape i).memory i.args) ∧ a.holds C.prog (lone (Frame.enter C.prog f i.args .normal) [] (w.forCall tape i)))
    (contract : ∀ (W : World) (base : Nat) (args : Array Value) (ds gs : List (DataW H)) (before : List MemPlace),
      (∀ (j : Nat) t v, fn.params[j]? = some t → args[j]? = some v → Value.okWide C.prog W .any base t v) →
      DataW.Whole enc C.prog fn.params.toList s.vars apart W args.toList ds gs before → X W args → W.ShapedOpen C.prog →
      Calls C.prog f args W fun e W' => ∃ v, e = .returned v ∧ s.post enc C.prog fn apart fresh handsOn again W args v W') :
    ReturnsInHanded a C os f .any (fun w args => (s.pre enc C.prog fn conds apart w args ∧ X w args) ∧ sizedMet enc C.prog fn (OpenSpec.ofChange s) apart w args) (s.post enc C.prog fn apart fresh handsOn again) := by
  refine returnsInHanded_of_calls own started noInit witness ?_
  intro w tape i _ hsh _ hok hpre _
  obtain ⟨_, _, _, fn', hfn', _, _, _, _, hval⟩ := hok
  have e : fn' = fn := Option.some.inj (hfn'.symm.trans hfn)
  subst e
  obtain ⟨⟨⟨ds, gs, before, hw, _⟩, hx⟩, _⟩ := hpre
  have hw' := DataW.Whole.of_heap (w' := w.forCall tape i) (by rfl) hw
  refine (contract (w.forCall tape i) w.heap.size i.args ds gs before hval hw' (hX _ _ _ (by rfl) hx) hsh).mono fun e W' ⟨v, he, hp⟩ => ?_
  subst he
  exact ChangeSpec.post_blind hp
end Go.Proofs.YtobhjkfkdkiigaaGreatDoor

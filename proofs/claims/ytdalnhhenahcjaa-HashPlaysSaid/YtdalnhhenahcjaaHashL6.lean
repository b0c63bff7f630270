/- HashPlays: the walk. -/
import Derived.Test.YtdalnhhenahcjaaHashV
import Derived.Test.YtdalnhhenahcjaaOpen
import Derived.BigQuiet
import Derived.Deep.Strs
namespace Go.Proofs.Ytdalnhhenahcjaa
open Go.RowKit HP
/-- a call of the script: its kind, its key, its number -/
abbrev HOp := Int × Key × Int
def hopCells (o : HOp) : List Value := [.int .i64 o.1, .int .i64 o.2.1.1, .int .i64 o.2.1.2.1, .int .i64 o.2.1.2.2, .int .i64 o.2.2]
theorem hop_at {w : World} {a : Option Addr} {l : List HOp} (h : Cells w a (l.flatMap hopCells)) {i : Nat} {o : HOp} (hi : l[i]? = some o) :
    ∃ b off, a = some ⟨b, off, none⟩ ∧ b < w.heap.size ∧ w.cell? ⟨b, off + i * 5, none⟩ = some (.int .i64 o.1) ∧ w.cell? ⟨b, off + i * 5 + 1, none⟩ = some (.int .i64 o.2.1.1) ∧ w.cell? ⟨b, off + i * 5 + 2, none⟩ = some (.int .i64 o.2.1.2.1) ∧ w.cell? ⟨b, off + i * 5 + 3, none⟩ = some (.int .i64 o.2.1.2.2) ∧ w.cell? ⟨b, off + i * 5 + 4, none⟩ = some (.int .i64 o.2.2) := by
  have g := fun j v => flat_get hopCells 5 (fun _ => rfl) l i j o v hi
  have h0 := g 0 _ rfl
  have h1 := g 1 _ rfl
  have h2 := g 2 _ rfl
  have h3 := g 3 _ rfl
  have h4 := g 4 _ rfl
  obtain ⟨b, off, e, hb, hh⟩ := h (by rintro e; rw [e] at h0; simp at h0)
  exact ⟨b, off, e, hb, by simpa using hh _ _ h0, by simpa [Nat.add_assoc] using hh _ _ h1, by simpa [Nat.add_assoc] using hh _ _ h2, by simpa [Nat.add_assoc] using hh _ _ h3, by simpa [Nat.add_assoc] using hh _ _ h4⟩

section
open Go.ChangeShapes Go.WideShapes Go.ChangeAt Go.Deep
variable {H : Type} {enc : TypeId × Value → H} {w : World} {base : Nat} {held : Bool}
theorem list5v (cs : List Value) (h : cs.length = 5) : ∃ a b c d e, cs = [a, b, c, d, e] := by
  match cs, h with
  | [a, b, c, d, e], _ => exact ⟨a, b, c, d, e, rfl⟩
theorem read_hop : ∀ n cs x, DataW.trod enc Try.prog w base (fun _ => true) held n 45 cs = some x → ∃ y : HOp, cs = hopCells y ∧ True := fun n cs x h => by
  obtain ⟨y0, y1, y2, m, _, hl, h0, h1, h2⟩ := trod_struct3 Try.underlying45 h
  have hc : Try.prog.cellsOf 45 = 5 := by kernel_rfl
  have hi : Try.prog.cellsOf 3 = 1 := by kernel_rfl
  have hs : Try.prog.cellsOf 26 = 3 := by kernel_rfl
  rw [hc] at hl
  obtain ⟨a, b, c, d, e, rfl⟩ := list5v cs hl
  simp only [hi, hs] at h0 h1 h2
  obtain ⟨z0, e0, _, _⟩ := DataW.trod_int Try.underlying3 h0
  obtain ⟨z1, e1, _⟩ := read_key Try.underlying26 Try.underlying3 (by kernel_rfl) (by kernel_rfl) _ _ _ h1
  obtain ⟨z2, e2, _, _⟩ := DataW.trod_int Try.underlying3 h2
  simp [keyCells] at e0 e1 e2
  obtain ⟨e10, e11, e12⟩ := e1
  exact ⟨(z0, z1, z2), by rw [e0, e10, e11, e12, e2]; rfl, trivial⟩
end
set_option maxRecDepth 100000 in
set_option maxHeartbeats 4000000 in
theorem hashPlays_walk (w : World) (a : Option Addr) (cap : Nat) (l : List HOp) (_hlc : l.length ≤ cap) (_hm : cap ≤ maxLen) (hc : Cells w a (l.flatMap hopCells)) (_wf : ∀ y ∈ l, True) :
    Calls Try.prog 7 #[.slice a l.length cap] w (Fine w) := by
  have hml : l.length ≤ 9223372036854775807 := by unfold maxLen at _hm; omega
  obtain ⟨K, hK⟩ : ∃ K, K = min l.length 300 := ⟨_, rfl⟩
  have hKl : K ≤ l.length := by omega
  have hK3 : K ≤ 300 := by omega
  have HK := Lib.hid hK
  clear hK
  go_enter Try.func7, Try.ntmps7
  go_wp2_with fail
  refine (tnew w w (Below.refl _ _)).mono ?_
  rintro e w1 ⟨p, rfl, h1, _, _⟩
  have hb1 := h1.bel.size
  have hT1 : Tab w (w1.alloc (.cells #[.slice none 0 0, .slice none 0 0] 43)) p (fun _ => none) 0 := h1.below ((Below.refl _ _).alloc (Nat.le_refl _) _)
  have HT1 := Lib.hid hT1
  clear h1 hT1
  go_wp2_with fail
  go_loopg [5] K (fun m x wr => ∃ i : Nat, m + i = K ∧ x = .int .i64 (i : Int) ∧ Both w wr p w1.heap.size i)
  case atStart => exact ⟨0, rfl, rfl, [], none, none, 0, 0, HT1.out, Blk.new_ _ _ _, ⟨TB.nil _ _, TB.nil _ _, Cells.nil _ _, Cells.nil _ _⟩, by simp, Nat.le_refl _⟩
  case round =>
    obtain ⟨i, hmi, rfl, L, ka, va, kc, vc, hT, hQ, hR, hN, hLi⟩ := hrel
    have HMI := Lib.hid hmi
    have hlen : ∃ N, N = L.length := ⟨_, rfl⟩
    obtain ⟨N, hNl⟩ := hlen
    have HNL := Lib.hid hNl
    rw [← hNl] at hT hQ hLi
    have hN3 : L.length ≤ 300 := by omega
    have hpP := fun W c v (hW : RT W L ka va) => rput_ok W L hN3 ka va kc vc c v hW
    have hpD := fun W c (hW : RT W L ka va) => rdrop_ok W L hN3 ka va kc vc c hW
    have hpG := fun W c (hW : RT W L ka va) => rget_ok W L hN3 ka va kc vc c hW
    rw [← hNl] at hpP hpD hpG
    have HP := Lib.hid hpP; have HD := Lib.hid hpD; have HG := Lib.hid hpG
    clear hN3 hpP hpD hpG
    have HT := Lib.hid hT; have HQ := Lib.hid hQ; have HR := Lib.hid hR; have HN := Lib.hid hN
    clear hmi hT hQ hR hN hNl
    by_cases hlt : i < K
    · obtain ⟨o, ho⟩ : ∃ o, l[i]? = some o := ⟨l[i], List.getElem?_eq_getElem (by omega)⟩
      obtain ⟨b, off, rfl, hb, k0, k1, k2, k3, k4⟩ := hop_at hc ho
      have hTB := HT.out.bel
      rw [← hTB.cell (p := ⟨_, _, none⟩) hb] at k0 k1 k2 k3 k4
      have l1 : i < l.length := by omega
      have l3 : i < 300 := by omega
      obtain ⟨kd, c, v⟩ := o
      obtain ⟨c0, c1, c2⟩ := c
      simp only at k0 k1 k2 k3 k4
      clear ho hTB
      have q0 : wr.cell? ⟨w1.heap.size, 0, none⟩ = some (.slice ka N kc) := HQ.out.cell 0
      have q1 : wr.cell? ⟨w1.heap.size, 1, none⟩ = some (.slice va N vc) := HQ.out.cell 1
      have ql : w1.heap.size < wr.heap.size := HQ.out.lt
      have hobn := Blk.new_ wr 45 #[.int .i64 kd, .int .i64 c0, .int .i64 c1, .int .i64 c2, .int .i64 v]
      have hwo : Below wr.heap.size wr (wr.alloc (.cells #[.int .i64 kd, .int .i64 c0, .int .i64 c1, .int .i64 c2, .int .i64 v] 45)) := (Below.refl _ _).alloc (Nat.le_refl _) _
      have HO := Lib.hid hobn; have HWO := Lib.hid hwo
      clear hobn hwo
      by_cases h1 : kd = 1
      · have e1 : (kd == 1) = true := by simpa using h1
        clear h1
        go_wp2_with fail
        refine (HP.out _ (c0, c1, c2) v (HR.out.below HWO.out)).mono ?_
        rintro e w2 ⟨⟨ka', va', kc', vc', rfl, hrt⟩, hb2⟩
        obtain ⟨N', hN'⟩ : ∃ N', N' = (putLR L (c0, c1, c2) v).length := ⟨_, rfl⟩
        rw [← hN']
        have HRT := Lib.hid hrt; have HN' := Lib.hid hN'; have HB2 := Lib.hid hb2
        clear hrt hN' hb2 q0 q1 ql k0 k1 k2 k3 k4 e1
        have hob : Blk w2 wr.heap.size 45 #[.int .i64 kd, .int .i64 c0, .int .i64 c1, .int .i64 c2, .int .i64 v] := HO.out.below HB2.out HO.out.lt
        have x1 : w2.cell? ⟨wr.heap.size, 1, none⟩ = some (.int .i64 c0) := hob.cell 1
        have x2 : w2.cell? ⟨wr.heap.size, 2, none⟩ = some (.int .i64 c1) := hob.cell 2
        have x3 : w2.cell? ⟨wr.heap.size, 3, none⟩ = some (.int .i64 c2) := hob.cell 3
        have x4 : w2.cell? ⟨wr.heap.size, 4, none⟩ = some (.int .i64 v) := hob.cell 4
        have xl : wr.heap.size < w2.heap.size := hob.lt
        clear hob
        have hqb : Blk w2 w1.heap.size 43 #[.slice ka N kc, .slice va N vc] := (HQ.out.alloc_ _).below HB2.out (HQ.out.alloc_ _).lt
        have q0 : w2.cell? ⟨w1.heap.size, 0, none⟩ = some (.slice ka N kc) := hqb.cell 0
        have q1 : w2.cell? ⟨w1.heap.size, 1, none⟩ = some (.slice va N vc) := hqb.cell 1
        have qf0 : w2.frozen? ⟨w1.heap.size, 0, none⟩ = false := hqb.frozen 0
        have qf1 : w2.frozen? ⟨w1.heap.size, 1, none⟩ = false := hqb.frozen 1
        have ql : w1.heap.size < w2.heap.size := hqb.lt
        have HQB := Lib.hid hqb
        clear hqb
        have hal : Below w2.heap.size w2 (w2.alloc (.cells #[.slice ka' N' kc', .slice va' N' vc'] 43)) := (Below.refl _ _).alloc (Nat.le_refl _) _
        have hT2 := ((HT.out.below HWO.out).below HB2.out).below hal
        have HT2 := Lib.hid hT2; have HAL := Lib.hid hal
        clear hT2 hal
        go_wp2_with fail
        refine (sput w _ p (mp L) N (c0, c1, c2) v HT2.out (by omega)).mono ?_
        rintro e w3 ⟨rfl, hT3, hS3⟩
        rw [← mp_put HN.out] at hT3
        have hn' : N' = if (mp L (c0, c1, c2)).isSome then N else N + 1 := by rw [HN'.out, put_len, ← HNL.out]
        have hli' : N' ≤ i + 1 := by rw [hn']; split <;> omega
        rw [← hn'] at hT3
        have HLI := Lib.hid hli'; have HT3 := Lib.hid hT3; have HS3 := Lib.hid hS3
        clear hT3 hS3 hn' hli' x1 x2 x3 x4 xl q0 q1 qf0 qf1 ql
        have hnb : Blk w3 w2.heap.size 43 #[.slice ka' N' kc', .slice va' N' vc'] := HS3.out _ _ _ (Blk.new_ _ _ _) (by decide) (by decide)
        have n0 : w3.cell? ⟨w2.heap.size, 0, none⟩ = some (.slice ka' N' kc') := hnb.cell 0
        have n1 : w3.cell? ⟨w2.heap.size, 1, none⟩ = some (.slice va' N' vc') := hnb.cell 1
        have nl : w2.heap.size < w3.heap.size := hnb.lt
        clear hnb
        have hqb : Blk w3 w1.heap.size 43 #[.slice ka N kc, .slice va N vc] := HS3.out _ _ _ (HQB.out.alloc_ _) (by decide) (by decide)
        have q0 : w3.cell? ⟨w1.heap.size, 0, none⟩ = some (.slice ka N kc) := hqb.cell 0
        have q1 : w3.cell? ⟨w1.heap.size, 1, none⟩ = some (.slice va N vc) := hqb.cell 1
        have qf0 : w3.frozen? ⟨w1.heap.size, 0, none⟩ = false := hqb.frozen 0
        have qf1 : w3.frozen? ⟨w1.heap.size, 1, none⟩ = false := hqb.frozen 1
        have ql : w1.heap.size < w3.heap.size := hqb.lt
        have HQC := Lib.hid hqb
        clear hqb
        have HRZ := Lib.hid ((((HRT.out.below HAL.out).side HS3.out).far HQC.out (by decide) (by decide) 0 (.slice ka' N' kc')).far (HQC.out.set_ 0 (.slice ka' N' kc')) (by decide) (by decide) 1 (.slice va' N' vc'))
        have HQZ := Lib.hid ((HQC.out.set_ 0 (.slice ka' N' kc')).set_ 1 (.slice va' N' vc'))
        have HZ := Lib.hid ((HT3.out.far HQC.out (by decide) (by decide) hb1 0 (.slice ka' N' kc')).far (HQC.out.set_ 0 (.slice ka' N' kc')) (by decide) (by decide) hb1 1 (.slice va' N' vc'))
        go_wp2_with fail
        go_quiet ((go_at_call 19; exact Calls.quiet_of_same (tlenQ _ _ _ _ _ HZ.out _)))
        go_wp2_with fail
        go_roundg (K - (i + 1))
        case measure => have := HMI.out; omega
        case rel => exact ⟨i + 1, by have := HMI.out; omega, by go_num, putLR L (c0, c1, c2) v, ka', va', kc', vc', by rw [← HN'.out]; exact HZ.out.below (bdN _ _), by rw [← HN'.out]; exact HQZ.out, HRZ.out.below (bdN _ _), put_nd HN.out _ _, by rw [← HN'.out]; exact HLI.out⟩
      · have d1 : (kd == 1) = false := by simpa using h1
        clear h1
        by_cases h2 : kd = 2
        · have d2 : (kd == 2) = true := by simpa using h2
          clear h2
          go_wp2_with fail
          refine (sget w _ p (mp L) N (c0, c1, c2) (HT.out.below HWO.out)).mono ?_
          rintro e w2 ⟨rfl, hT2, hS2⟩
          have HT2 := Lib.hid hT2; have HS2 := Lib.hid hS2
          clear hT2 hS2 q0 q1 ql k0 k1 k2 k3 k4 d1 d2
          have hob : Blk w2 wr.heap.size 45 #[.int .i64 kd, .int .i64 c0, .int .i64 c1, .int .i64 c2, .int .i64 v] := HS2.out _ _ _ HO.out (by decide) (by decide)
          have x1 : w2.cell? ⟨wr.heap.size, 1, none⟩ = some (.int .i64 c0) := hob.cell 1
          have x2 : w2.cell? ⟨wr.heap.size, 2, none⟩ = some (.int .i64 c1) := hob.cell 2
          have x3 : w2.cell? ⟨wr.heap.size, 3, none⟩ = some (.int .i64 c2) := hob.cell 3
          have xl : wr.heap.size < w2.heap.size := hob.lt
          clear hob
          have hqb : Blk w2 w1.heap.size 43 #[.slice ka N kc, .slice va N vc] := HS2.out _ _ _ (HQ.out.alloc_ _) (by decide) (by decide)
          have q0 : w2.cell? ⟨w1.heap.size, 0, none⟩ = some (.slice ka N kc) := hqb.cell 0
          have q1 : w2.cell? ⟨w1.heap.size, 1, none⟩ = some (.slice va N vc) := hqb.cell 1
          have qf0 : w2.frozen? ⟨w1.heap.size, 0, none⟩ = false := hqb.frozen 0
          have qf1 : w2.frozen? ⟨w1.heap.size, 1, none⟩ = false := hqb.frozen 1
          have ql : w1.heap.size < w2.heap.size := hqb.lt
          have HQB := Lib.hid hqb
          clear hqb
          have HR2 := Lib.hid ((HR.out.below HWO.out).side HS2.out)
          go_wp2_with fail
          refine (HG.out _ (c0, c1, c2) HR2.out).mono ?_
          rintro e w3 ⟨rfl, hb3⟩
          rw [(rg_mp L (c0, c1, c2)).1, (rg_mp L (c0, c1, c2)).2]
          have HB3 := Lib.hid hb3
          clear hb3 q0 q1 qf0 qf1 ql x1 x2 x3 xl
          have hqb : Blk w3 w1.heap.size 43 #[.slice ka N kc, .slice va N vc] := HQB.out.below HB3.out HQB.out.lt
          have q0 : w3.cell? ⟨w1.heap.size, 0, none⟩ = some (.slice ka N kc) := hqb.cell 0
          have q1 : w3.cell? ⟨w1.heap.size, 1, none⟩ = some (.slice va N vc) := hqb.cell 1
          have qf0 : w3.frozen? ⟨w1.heap.size, 0, none⟩ = false := hqb.frozen 0
          have qf1 : w3.frozen? ⟨w1.heap.size, 1, none⟩ = false := hqb.frozen 1
          have ql : w1.heap.size < w3.heap.size := hqb.lt
          have HQC := Lib.hid hqb
          clear hqb
          have HRZ := Lib.hid (HR2.out.below HB3.out)
          have HQZ := HQC
          have HZ := Lib.hid (HT2.out.below HB3.out)
          go_wp2_with fail
          go_quiet ((go_at_call 19; exact Calls.quiet_of_same (tlenQ _ _ _ _ _ HZ.out _)))
          go_wp2_with fail
          go_roundg (K - (i + 1))
          case measure => have := HMI.out; omega
          case rel => exact ⟨i + 1, by have := HMI.out; omega, by go_num, L, ka, va, kc, vc, by rw [← HNL.out]; exact HZ.out.below (bdN _ _), by rw [← HNL.out]; exact HQZ.out, HRZ.out.below (bdN _ _), HN.out, by rw [← HNL.out]; exact by omega⟩
        · have d2 : (kd == 2) = false := by simpa using h2
          clear h2
          by_cases h3 : kd = 3
          · have d3 : (kd == 3) = true := by simpa using h3
            clear h3
            go_wp2_with fail
            refine (HD.out _ (c0, c1, c2) (HR.out.below HWO.out)).mono ?_
            rintro e w2 ⟨⟨ka', va', kc', vc', rfl, hrt⟩, hb2⟩
            rw [← mp_some]
            obtain ⟨N', hN'⟩ : ∃ N', N' = (dropL L (c0, c1, c2)).length := ⟨_, rfl⟩
            rw [← hN']
            have HRT := Lib.hid hrt; have HN' := Lib.hid hN'; have HB2 := Lib.hid hb2
            clear hrt hN' hb2 q0 q1 ql k0 k1 k2 k3 k4 d1 d2 d3
            have hob : Blk w2 wr.heap.size 45 #[.int .i64 kd, .int .i64 c0, .int .i64 c1, .int .i64 c2, .int .i64 v] := HO.out.below HB2.out HO.out.lt
            have x1 : w2.cell? ⟨wr.heap.size, 1, none⟩ = some (.int .i64 c0) := hob.cell 1
            have x2 : w2.cell? ⟨wr.heap.size, 2, none⟩ = some (.int .i64 c1) := hob.cell 2
            have x3 : w2.cell? ⟨wr.heap.size, 3, none⟩ = some (.int .i64 c2) := hob.cell 3
            have xl : wr.heap.size < w2.heap.size := hob.lt
            clear hob
            have hqb : Blk w2 w1.heap.size 43 #[.slice ka N kc, .slice va N vc] := (HQ.out.alloc_ _).below HB2.out (HQ.out.alloc_ _).lt
            have q0 : w2.cell? ⟨w1.heap.size, 0, none⟩ = some (.slice ka N kc) := hqb.cell 0
            have q1 : w2.cell? ⟨w1.heap.size, 1, none⟩ = some (.slice va N vc) := hqb.cell 1
            have qf0 : w2.frozen? ⟨w1.heap.size, 0, none⟩ = false := hqb.frozen 0
            have qf1 : w2.frozen? ⟨w1.heap.size, 1, none⟩ = false := hqb.frozen 1
            have ql : w1.heap.size < w2.heap.size := hqb.lt
            have HQB := Lib.hid hqb
            clear hqb
            have hal : Below w2.heap.size w2 (w2.alloc (.cells #[.slice ka' N' kc', .slice va' N' vc'] 43)) := (Below.refl _ _).alloc (Nat.le_refl _) _
            have hT2 := ((HT.out.below HWO.out).below HB2.out).below hal
            have HT2 := Lib.hid hT2; have HAL := Lib.hid hal
            clear hT2 hal
            go_wp2_with fail
            refine (sdrop w _ p (mp L) N (c0, c1, c2) HT2.out).mono ?_
            rintro e w3 ⟨rfl, hT3, hS3⟩
            rw [← mp_drop HN.out] at hT3
            have hn' : N' = if (mp L (c0, c1, c2)).isSome then N - 1 else N := by rw [HN'.out, drop_len, ← HNL.out]
            have hli' : N' ≤ i + 1 := by rw [hn']; split <;> omega
            rw [← hn'] at hT3
            have HLI := Lib.hid hli'; have HT3 := Lib.hid hT3; have HS3 := Lib.hid hS3
            clear hT3 hS3 hn' hli' x1 x2 x3 xl q0 q1 qf0 qf1 ql
            have hnb : Blk w3 w2.heap.size 43 #[.slice ka' N' kc', .slice va' N' vc'] := HS3.out _ _ _ (Blk.new_ _ _ _) (by decide) (by decide)
            have n0 : w3.cell? ⟨w2.heap.size, 0, none⟩ = some (.slice ka' N' kc') := hnb.cell 0
            have n1 : w3.cell? ⟨w2.heap.size, 1, none⟩ = some (.slice va' N' vc') := hnb.cell 1
            have nl : w2.heap.size < w3.heap.size := hnb.lt
            clear hnb
            have hqb : Blk w3 w1.heap.size 43 #[.slice ka N kc, .slice va N vc] := HS3.out _ _ _ (HQB.out.alloc_ _) (by decide) (by decide)
            have q0 : w3.cell? ⟨w1.heap.size, 0, none⟩ = some (.slice ka N kc) := hqb.cell 0
            have q1 : w3.cell? ⟨w1.heap.size, 1, none⟩ = some (.slice va N vc) := hqb.cell 1
            have qf0 : w3.frozen? ⟨w1.heap.size, 0, none⟩ = false := hqb.frozen 0
            have qf1 : w3.frozen? ⟨w1.heap.size, 1, none⟩ = false := hqb.frozen 1
            have ql : w1.heap.size < w3.heap.size := hqb.lt
            have HQC := Lib.hid hqb
            clear hqb
            have HRZ := Lib.hid ((((HRT.out.below HAL.out).side HS3.out).far HQC.out (by decide) (by decide) 0 (.slice ka' N' kc')).far (HQC.out.set_ 0 (.slice ka' N' kc')) (by decide) (by decide) 1 (.slice va' N' vc'))
            have HQZ := Lib.hid ((HQC.out.set_ 0 (.slice ka' N' kc')).set_ 1 (.slice va' N' vc'))
            have HZ := Lib.hid ((HT3.out.far HQC.out (by decide) (by decide) hb1 0 (.slice ka' N' kc')).far (HQC.out.set_ 0 (.slice ka' N' kc')) (by decide) (by decide) hb1 1 (.slice va' N' vc'))
            go_wp2_with fail
            go_quiet ((go_at_call 19; exact Calls.quiet_of_same (tlenQ _ _ _ _ _ HZ.out _)))
            go_wp2_with fail
            go_roundg (K - (i + 1))
            case measure => have := HMI.out; omega
            case rel => exact ⟨i + 1, by have := HMI.out; omega, by go_num, dropL L (c0, c1, c2), ka', va', kc', vc', by rw [← HN'.out]; exact HZ.out.below (bdN _ _), by rw [← HN'.out]; exact HQZ.out, HRZ.out.below (bdN _ _), drop_nd HN.out _, by rw [← HN'.out]; exact HLI.out⟩
          · have d3 : (kd == 3) = false := by simpa using h3
            clear h3
            go_wp2_with fail
            refine (sclear w _ p (mp L) N (HT.out.below HWO.out)).mono ?_
            rintro e w2 ⟨rfl, hT2, hS2⟩
            have HT2 := Lib.hid hT2; have HS2 := Lib.hid hS2
            clear hT2 hS2 q0 q1 ql k0 k1 k2 k3 k4 d1 d2 d3
            have hqb : Blk w2 w1.heap.size 43 #[.slice ka N kc, .slice va N vc] := HS2.out _ _ _ (HQ.out.alloc_ _) (by decide) (by decide)
            have q0 : w2.cell? ⟨w1.heap.size, 0, none⟩ = some (.slice ka N kc) := hqb.cell 0
            have q1 : w2.cell? ⟨w1.heap.size, 1, none⟩ = some (.slice va N vc) := hqb.cell 1
            have qf0 : w2.frozen? ⟨w1.heap.size, 0, none⟩ = false := hqb.frozen 0
            have qf1 : w2.frozen? ⟨w1.heap.size, 1, none⟩ = false := hqb.frozen 1
            have ql : w1.heap.size < w2.heap.size := hqb.lt
            have HQC := Lib.hid hqb
            clear hqb
            have HRZ : Hid (RT ((w2.setCell ⟨w1.heap.size, 0, none⟩ (.slice none 0 0)).setCell ⟨w1.heap.size, 1, none⟩ (.slice none 0 0)) [] none none) := Lib.hid ⟨TB.nil _ _, TB.nil _ _, Cells.nil _ _, Cells.nil _ _⟩
            have HQZ := Lib.hid ((HQC.out.set_ 0 (.slice none 0 0)).set_ 1 (.slice none 0 0))
            have HZ := Lib.hid ((HT2.out.far HQC.out (by decide) (by decide) hb1 0 (.slice none 0 0)).far (HQC.out.set_ 0 (.slice none 0 0)) (by decide) (by decide) hb1 1 (.slice none 0 0))
            go_wp2_with fail
            go_quiet ((go_at_call 19; exact Calls.quiet_of_same (tlenQ _ _ _ _ _ HZ.out _)))
            go_wp2_with fail
            go_roundg (K - (i + 1))
            case measure => have := HMI.out; omega
            case rel => exact ⟨i + 1, by have := HMI.out; omega, by go_num, [], none, none, 0, 0, by rw [List.length_nil]; exact HZ.out.below (bdN _ _), by rw [List.length_nil]; exact HQZ.out, HRZ.out.below (bdN _ _), by simp, by rw [List.length_nil]; exact Nat.zero_le _⟩
    · have hle : K ≤ i := by omega
      have hik : i = K := by have := HMI.out; omega
      have hb : Below w.heap.size w wr := HT.out.bel
      have HBZ := Lib.hid hb
      clear hb
      by_cases h3 : K = 300
      · have l3 : (300 : Nat) ≤ i := by omega
        have l3' : ¬ (i < 300) := by omega
        by_cases hll : i < l.length
        all_goals
          go_wp2_with fail
          refine (awake02 _).mono ?_
          rintro e w5 ⟨rfl, h5⟩
          go_wp2_with fail
          go_ret
          exact ⟨rfl, HBZ.out.trans (h5.mono HBZ.out.size)⟩
      · have l4 : l.length ≤ i := by have := HK.out; omega
        clear h3
        go_wp2_with fail
        refine (awake02 _).mono ?_
        rintro e w5 ⟨rfl, h5⟩
        go_wp2_with fail
        go_ret
        exact ⟨rfl, HBZ.out.trans (h5.mono HBZ.out.size)⟩
end Go.Proofs.Ytdalnhhenahcjaa

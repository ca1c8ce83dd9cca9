/-
  Parts of the walks and plain laws of layer 10, joined: XmlSm XmlNs. Conditions: as each theorem states them.
-/
import Derived.Test.YtkmpilnjhlnmfaaGreatDoorXmlZ25
/-! XmlSm -/
namespace Go.Proofs.YtkmpilnjhlnmfaaGreatDoor
set_option linter.unusedVariables false
set_option linter.unusedSimpArgs false
open Go.RowKit

theorem attr_same (a b : List UInt8) (w : World) : (binOp .neq 36 (.agg #[.string ⟨a.toArray⟩, .string ⟨b.toArray⟩]) (.agg #[.string ⟨a.toArray⟩, .string ⟨b.toArray⟩])).run Tryz.prog w = .ok (.bool false) w := by
  go_simp
set_option maxHeartbeats 16000000 in
set_option maxRecDepth 100000 in
set_option linter.unusedSimpArgs false in
theorem xsame_any {w : World} {cs : List Value} {n : NodeT} (h : NodeP anyB w cs n) : ∀ cs2, NodeP anyB w cs2 n → ∀ w', Below w.heap.size w w' → Calls Tryz.prog 16 #[.agg cs.toArray, .agg cs2.toArray] w' (Ret (.bool true) w') := by
  induction h with
  | mk t s n ats ks av A cap rows ha hl hm hA hc hk ih =>
  intro cs2 h2 w' hbw
  obtain ⟨av2, kv2, rfl, ha2, hk2⟩ := h2.parts
  obtain ⟨avA, avc, rfl⟩ := tab_shape ha.1
  obtain ⟨bvA, bvc, rfl⟩ := tab_shape ha2.1
  obtain ⟨kA, kc, rfl⟩ := tab_shape hk2.1
  obtain ⟨-, hac, ham, hat⟩ := attrs_at ha
  obtain ⟨-, hac2, ham2, hat2⟩ := attrs_at ha2
  obtain ⟨-, hkc2, hkm2, hkt2⟩ := kid_at hk2
  unfold maxLen at hm ham ham2 hkm2
  replace hac2 : ats.length ≤ bvc := hac2
  replace hkc2 : ks.length ≤ kc := hkc2
  have HAt := Lib.hid hat
  have HAt2 := Lib.hid (show ∀ j a, ats[j]? = some a → _ from hat2)
  have HKt2 := Lib.hid (show ∀ j x, ks[j]? = some x → _ from hkt2)
  have HIH := Lib.hid ih
  have HRow := Lib.hid (fun j x (hx : ks[j]? = some x) => row_at (b := 0) (o := 0) (v := .pointer none) hc (List.getElem?_eq_some_iff.1 hx).1 (hk j x hx))
  show Calls Tryz.prog 16 #[.agg #[.string ⟨t.toArray⟩, .string ⟨s.toArray⟩, .string ⟨n.toArray⟩, .slice avA ats.length avc, .slice A ks.length cap], .agg #[.string ⟨t.toArray⟩, .string ⟨s.toArray⟩, .string ⟨n.toArray⟩, .slice bvA ats.length bvc, .slice kA ks.length kc]] w' (Ret (.bool true) w')
  obtain ⟨E, hEE⟩ : ∃ E, E = Ret (.bool true) w' := ⟨_, rfl⟩
  rw [← hEE]
  have HEE := Lib.hid hEE
  have HBw := Lib.hid hbw
  have hb1 : Below w'.heap.size w' (w'.alloc (.cells #[.string ⟨t.toArray⟩, .string ⟨s.toArray⟩, .string ⟨n.toArray⟩, .slice avA ats.length avc, .slice A ks.length cap] 28 (0, 0))) := (Below.refl _ _).alloc (Nat.le_refl _) _
  have hq1 := heap_alloc_new w' (.cells #[.string ⟨t.toArray⟩, .string ⟨s.toArray⟩, .string ⟨n.toArray⟩, .slice avA ats.length avc, .slice A ks.length cap] 28 (0, 0))
  have hz1 : (w'.alloc (.cells #[.string ⟨t.toArray⟩, .string ⟨s.toArray⟩, .string ⟨n.toArray⟩, .slice avA ats.length avc, .slice A ks.length cap] 28 (0, 0))).heap.size = w'.heap.size + 1 := World.size_alloc ..
  have hb2 := hb1.alloc (hb1.size) (.cells #[.string ⟨t.toArray⟩, .string ⟨s.toArray⟩, .string ⟨n.toArray⟩, .slice bvA ats.length bvc, .slice kA ks.length kc] 28 (0, 0))
  have hq2 := heap_alloc_new (w'.alloc (.cells #[.string ⟨t.toArray⟩, .string ⟨s.toArray⟩, .string ⟨n.toArray⟩, .slice avA ats.length avc, .slice A ks.length cap] 28 (0, 0))) (.cells #[.string ⟨t.toArray⟩, .string ⟨s.toArray⟩, .string ⟨n.toArray⟩, .slice bvA ats.length bvc, .slice kA ks.length kc] 28 (0, 0))
  have hq1' := (heap_alloc_old (w'.alloc (.cells #[.string ⟨t.toArray⟩, .string ⟨s.toArray⟩, .string ⟨n.toArray⟩, .slice avA ats.length avc, .slice A ks.length cap] 28 (0, 0))) (.cells #[.string ⟨t.toArray⟩, .string ⟨s.toArray⟩, .string ⟨n.toArray⟩, .slice bvA ats.length bvc, .slice kA ks.length kc] 28 (0, 0)) (by rw [hz1]; omega)).trans hq1
  rw [hz1] at hq2
  have HB0 := Lib.hid hb2
  have HQ1 := Lib.hid hq1'
  have HQ2 := Lib.hid hq2
  have HS := Lib.hid (fun (w2 : World) (h1 : w2.heap[w'.heap.size]? = some (.cells #[.string ⟨t.toArray⟩, .string ⟨s.toArray⟩, .string ⟨n.toArray⟩, .slice avA ats.length avc, .slice A ks.length cap] 28 (0, 0))) (h2 : w2.heap[w'.heap.size + 1]? = some (.cells #[.string ⟨t.toArray⟩, .string ⟨s.toArray⟩, .string ⟨n.toArray⟩, .slice bvA ats.length bvc, .slice kA ks.length kc] 28 (0, 0))) =>
    (⟨xat h1 0, xat h1 1, xat h1 2, xat h1 3, xat h1 4, xat h2 0, xat h2 1, xat h2 2, xat h2 3, xat h2 4⟩ : (w2.cell? ⟨w'.heap.size, 0, none⟩ = some (.string ⟨t.toArray⟩) ∧ w2.cell? ⟨w'.heap.size, 1, none⟩ = some (.string ⟨s.toArray⟩) ∧ w2.cell? ⟨w'.heap.size, 2, none⟩ = some (.string ⟨n.toArray⟩) ∧ w2.cell? ⟨w'.heap.size, 3, none⟩ = some (.slice avA ats.length avc) ∧ w2.cell? ⟨w'.heap.size, 4, none⟩ = some (.slice A ks.length cap) ∧
     w2.cell? ⟨w'.heap.size + 1, 0, none⟩ = some (.string ⟨t.toArray⟩) ∧ w2.cell? ⟨w'.heap.size + 1, 1, none⟩ = some (.string ⟨s.toArray⟩) ∧ w2.cell? ⟨w'.heap.size + 1, 2, none⟩ = some (.string ⟨n.toArray⟩) ∧ w2.cell? ⟨w'.heap.size + 1, 3, none⟩ = some (.slice bvA ats.length bvc) ∧ w2.cell? ⟨w'.heap.size + 1, 4, none⟩ = some (.slice kA ks.length kc))))
  obtain ⟨x0, x1, x2, x3, x4, y0, y1, y2, y3, y4⟩ := HS.out _ hq1' hq2
  clear hb1 hq1 hq1' hq2 hb2 ih hk hc hA ha hbw h2 ha2 hk2 hat hat2 hkt2 hEE
  go_enter Tryz.func16, Tryz.ntmps16
  go_wp2_with fail
  generalize (w'.alloc (.cells #[.string ⟨t.toArray⟩, .string ⟨s.toArray⟩, .string ⟨n.toArray⟩, .slice avA ats.length avc, .slice A ks.length cap] 28 (0, 0))).alloc (.cells #[.string ⟨t.toArray⟩, .string ⟨s.toArray⟩, .string ⟨n.toArray⟩, .slice bvA ats.length bvc, .slice kA ks.length kc] 28 (0, 0)) = w1 at *
  clear x0 x1 x2 x3 x4 y0 y1 y2 y3 y4 hz1
  have HW1 := Lib.hid (HBw.out.trans (HB0.out.mono HBw.out.size))
  have HSx := Lib.hid (fun w2 (hb : Below w1.heap.size w1 w2) => HS.out w2 ((hb.block _ (xlt HQ1.out)).trans HQ1.out) ((hb.block _ (xlt HQ2.out)).trans HQ2.out))
  obtain ⟨q1, hq1⟩ : ∃ q, q = w'.heap.size := ⟨_, rfl⟩
  rw [← hq1] at HSx ⊢
  clear HS HQ1 HQ2 hq1
  go_loopg [5] ats.length (fun gk iv wr => ∃ (i : Nat), i + gk = ats.length ∧ iv = .int .i64 i ∧ Hid (Below w1.heap.size w1 wr))
  case atStart => exact ⟨0, by omega, rfl, Lib.hid (Below.refl _ _)⟩
  case round =>
    obtain ⟨i, hi, rfl, hbr⟩ := hrel
    obtain ⟨x0, x1, x2, x3, x4, y0, y1, y2, y3, y4⟩ := HSx.out wr hbr.out
    clear x0 x1 x2 x4 y0 y1 y2 y4
    rcases Nat.lt_or_ge i ats.length with hlt | hge
    · obtain ⟨a, hx⟩ : ∃ a, ats[i]? = some a := ⟨_, List.getElem?_eq_getElem hlt⟩
      obtain ⟨b1, o1, rfl, hbl1, e0, e1⟩ := HAt.out i a hx
      obtain ⟨b2, o2, rfl, hbl2, f0, f1⟩ := HAt2.out i a hx
      have hbx := HW1.out.trans (hbr.out.mono HW1.out.size)
      have d0 := (hbx.cell (p := ⟨b1, o1 + i * 2, none⟩) hbl1).trans e0
      have d1 := (hbx.cell (p := ⟨b1, o1 + i * 2 + 1, none⟩) hbl1).trans e1
      have g0 := (hbx.cell (p := ⟨b2, o2 + i * 2, none⟩) hbl2).trans f0
      have g1 := (hbx.cell (p := ⟨b2, o2 + i * 2 + 1, none⟩) hbl2).trans f1
      obtain ⟨an, av⟩ := a
      simp only at d0 d1 g0 g1
      have k1 : (i : Int) < ats.length := by omega
      have k2 : (0 : Int) ≤ i := by omega
      have hsm := attr_same an av
      have HBD := Lib.hid (fun k => below_draws hbr.out k)
      clear e0 e1 f0 f1 hbx hx
      go_wp2
      go_quiet (fail)
      go_wp2
      go_roundg (gk - 1)
      case measure => omega
      case rel => exact ⟨i + 1, by omega, by go_num, Lib.hid (HBD.out _)⟩
    · have hie : i = ats.length := by omega
      subst hie
      go_wp2_with fail
      clear x3 y3
      go_loopg [6] ks.length (fun gk iv wr => ∃ (i : Nat), i + gk = ks.length ∧ iv = .int .i64 i ∧ Hid (Below w1.heap.size w1 wr))
      case atStart => exact ⟨0, by omega, rfl, hbr⟩
      case round =>
        obtain ⟨i, hi2, rfl, hbr2⟩ := hrel
        obtain ⟨x0, x1, x2, x3, x4, y0, y1, y2, y3, y4⟩ := HSx.out _ hbr2.out
        clear x0 x1 x2 x3 y0 y1 y2 y3 hbr
        rcases Nat.lt_or_ge i ks.length with hlt2 | hge2
        · obtain ⟨x, hx⟩ : ∃ x, ks[i]? = some x := ⟨_, List.getElem?_eq_getElem hlt2⟩
          obtain ⟨b1, o1, aA, ac, kB, kcc, rfl, hbl1, hrow, e0, e1, e2, e3, e4⟩ := HRow.out i x hx
          obtain ⟨b2, o2, aA2, ac2, kB2, kcc2, rfl, hbl2, f0, f1, f2, f3, f4, fa, fk⟩ := HKt2.out i x hx
          have hbx := HW1.out.trans (hbr2.out.mono HW1.out.size)
          have d0 := (hbx.cell (p := ⟨b1, o1 + i * 5, none⟩) hbl1).trans e0
          have d1 := (hbx.cell (p := ⟨b1, o1 + i * 5 + 1, none⟩) hbl1).trans e1
          have d2 := (hbx.cell (p := ⟨b1, o1 + i * 5 + 2, none⟩) hbl1).trans e2
          have d3 := (hbx.cell (p := ⟨b1, o1 + i * 5 + 3, none⟩) hbl1).trans e3
          have d4 := (hbx.cell (p := ⟨b1, o1 + i * 5 + 4, none⟩) hbl1).trans e4
          have g0 := (hbx.cell (p := ⟨b2, o2 + i * 5, none⟩) hbl2).trans f0
          have g1 := (hbx.cell (p := ⟨b2, o2 + i * 5 + 1, none⟩) hbl2).trans f1
          have g2 := (hbx.cell (p := ⟨b2, o2 + i * 5 + 2, none⟩) hbl2).trans f2
          have g3 := (hbx.cell (p := ⟨b2, o2 + i * 5 + 3, none⟩) hbl2).trans f3
          have g4 := (hbx.cell (p := ⟨b2, o2 + i * 5 + 4, none⟩) hbl2).trans f4
          have HCl := Lib.hid (fun wx (hb : Below w.heap.size w wx) => HIH.out i x hx [.string ⟨x.text.toArray⟩, .string ⟨x.space.toArray⟩, .string ⟨x.name.toArray⟩, .slice aA2 x.attrs.length ac2, .slice kB2 x.kids.length kcc2] (by have := NodeP.of (t := x.text) (s := x.space) (n := x.name) fa fk; obtain ⟨t', s', m', at', k'⟩ := x; exact this) wx hb)
          rw [hrow] at HCl
          have HCd := Lib.hid (HCl.out _ (below_draws hbx 1))
          have HBD := Lib.hid (below_draws hbr2.out 1)
          have k1 : (i : Int) < ks.length := by omega
          have k2 : (0 : Int) ≤ i := by omega
          clear e0 e1 e2 e3 e4 f0 f1 f2 f3 f4 hbx hx fa fk hrow HCl
          go_upto_region 11 with (fail)
          first | go_region_with (go_at_call 16; refine HCd.out.mono ?_; rintro e w5 ⟨rfl, hb5⟩) | fail
          all_goals
            go_wp2
            go_roundg (gk - 1)
            case measure => omega
            case rel => exact ⟨i + 1, by omega, by go_num, Lib.hid (HBD.out.trans (hb5.mono HBD.out.size))⟩
        · have hie2 : i = ks.length := by omega
          subst hie2
          go_wp2
          rw [HEE.out]
          exact ⟨rfl, HB0.out.trans (hbr2.out.mono HB0.out.size)⟩
end Go.Proofs.YtkmpilnjhlnmfaaGreatDoor
/-! XmlNs -/
namespace Go.Proofs.YtkmpilnjhlnmfaaGreatDoor
set_option linter.unusedVariables false
set_option linter.unusedSimpArgs false
open Go.RowKit

theorem parse_err {s : List UInt8} {k : Int} (h : parseX s = .error k) : k = 5 ∨ k = 30 ∨ k = 31 := by
  unfold parseX at h
  repeat' (first | split at h | skip)
  all_goals first | (injection h with h; omega) | skip
  simp only at h
  repeat' split at h
  all_goals first | (injection h with h; omega) | cases h
theorem letter_conv (w : World) (c : UInt8) (z : Int) (hz : z = c.toNat) : (convert 24 9 (.slice (some ⟨w.heap.size, 0, none⟩) 1 1)).run Tryz.prog (w.alloc (.cells #[.int .u8 z] 5 (0, 0))) = .ok (.string ⟨#[c]⟩) (w.alloc (.cells #[.int .u8 z] 5 (0, 0))) := by
  subst hz
  refine conv_bytes _ _ [c] ⟨_, 1, rfl, Nat.le_refl _, by unfold maxLen; decide, fun j u hj => ⟨w.heap.size, 0, rfl, by rw [World.size_alloc]; omega, ?_⟩⟩
  rw [xat (heap_alloc_new w _), Nat.zero_add, ← hj]
  unfold vbytes
  simp
/-- the three answers. -/
theorem noise_law {s : List UInt8} (hs : s.length ≤ 60000) {c : UInt8} (h1 : 97 ≤ c.toNat) (h2 : c.toNat ≤ 122) :
    (∃ k, parseX s = .error k ∧ (k = 5 ∨ k = 31 ∨ (k = 30 ∧ (declared s = true ∨ outE (parseX (preN c s)) = 30)))) ∨
    ∃ n, parseX s = .ok n ∧ parseX (s ++ tailN c) = .ok n ∧ ((declared s = true ∧ parseX (preN c s) = .error 30) ∨ (declared s = false ∧ parseX (preN c s) = .ok n)) := by
  obtain ⟨p1, p2⟩ := parse_pre h1 h2 hs
  cases hx : parseX s with
  | error k =>
    refine .inl ⟨k, rfl, ?_⟩
    rcases parse_err hx with h | h | h
    · exact .inl h
    · refine .inr (.inr ⟨h, ?_⟩)
      cases hd : declared s with
      | true => exact .inl rfl
      | false => exact .inr (by rw [p1 hd, hx, h]; rfl)
    · exact .inr (.inl h)
  | ok n =>
    refine .inr ⟨n, rfl, parse_tail h1 h2 hs hx, ?_⟩
    cases hd : declared s with
    | true => exact .inl ⟨rfl, p2 hd n hx⟩
    | false => exact .inr ⟨rfl, by rw [p1 hd, hx]⟩
theorem TreeV.node {w : World} {n : NodeT} {aA kA : Option Addr} {ac kc : Nat} (h : TreeV w n aA ac kA kc) : NodeP anyB w [.string ⟨n.text.toArray⟩, .string ⟨n.space.toArray⟩, .string ⟨n.name.toArray⟩, .slice aA n.attrs.length ac, .slice kA n.kids.length kc] n := by
  have := NodeP.of (t := n.text) (s := n.space) (n := n.name) h.at_ h.kd
  obtain ⟨t, s, m, ats, ks⟩ := n
  exact this
theorem same_tree {w : World} {n : NodeT} {aA kA aB kB : Option Addr} {ac kc bc lc : Nat} (h1 : TreeV w n aA ac kA kc) (h2 : TreeV w n aB bc kB lc) :
    Calls Tryz.prog 16 #[.agg #[.string ⟨n.text.toArray⟩, .string ⟨n.space.toArray⟩, .string ⟨n.name.toArray⟩, .slice aA n.attrs.length ac, .slice kA n.kids.length kc], .agg #[.string ⟨n.text.toArray⟩, .string ⟨n.space.toArray⟩, .string ⟨n.name.toArray⟩, .slice aB n.attrs.length bc, .slice kB n.kids.length lc]] w (Ret (.bool true) w) :=
  xsame_any h1.node _ h2.node w (Below.refl _ _)
set_option maxHeartbeats 16000000 in
set_option maxRecDepth 100000 in
set_option linter.unusedSimpArgs false in
theorem law_noise (s : List UInt8) (a : Nat) (w : World) (hs : s.length ≤ 9223372036854775807) (ha : a ≤ 255) (hE : XEnv w) : Calls Tryz.prog 4 #[.string ⟨s.toArray⟩, .int .u8 (a : Int)] w (Ret (.bool true) w) := by
  have HE := Lib.hid hE
  have HFx := Lib.hid (fun w' (hb : Below w.heap.size w w') => xfixed_any w' (hE.below hb))
  have HPa := Lib.hid (fun t w' (hb : Below w.heap.size w w') (ht : t.length ≤ 2 ^ 63 - 1) => xparseV t w' ht (hE.below hb))
  obtain ⟨E, hEE⟩ : ∃ E, E = Ret (.bool true) w := ⟨_, rfl⟩
  rw [← hEE]
  have HEE := Lib.hid hEE
  obtain ⟨j, hj⟩ : ∃ j, j = a % 26 := ⟨_, rfl⟩
  have hj26 : j ≤ 25 := by omega
  have m1 : (a : Int).tmod 26 = (j : Int) := by rw [hj]; rfl
  have m2 : IntKind.u8.wrap (j : Int) = j := IntWalk.u8_in _ (by omega)
  have m3 : IntKind.u8.wrap (97 + (j : Int)) = 97 + (j : Int) := IntWalk.u8_in _ (by omega)
  clear hE hEE hj
  by_cases hbig : 60000 < s.length
  · have j1 : (60000 : Int) < s.length := by omega
    go_enter Tryz.func4, Tryz.ntmps4
    go_wp2_with fail
    refine (HFx.out w (Below.refl _ _)).mono ?_
    rintro e w1 ⟨rfl, hb1⟩
    have HB1 := Lib.hid hb1
    clear hb1
    go_wp2_with fail
    refine (HFx.out w1 HB1.out).mono ?_
    rintro e w2 ⟨rfl, hb2⟩
    go_wp2
    rw [HEE.out]
    exact ⟨rfl, HB1.out.trans (hb2.mono HB1.out.size)⟩
  have j1 : ¬ (60000 : Int) < s.length := by omega
  go_enter Tryz.func4, Tryz.ntmps4
  go_wp2_with fail
  refine (HFx.out w (Below.refl _ _)).mono ?_
  rintro e w1 ⟨rfl, hb1⟩
  have HB1 := Lib.hid hb1
  clear hb1 HFx
  go_wp2_with fail
  refine (HPa.out s w1 HB1.out (by omega)).mono ?_
  rintro e w2 ⟨hb2, aA, ac, kA, kc, rfl, ht1⟩
  have hb23 := (Below.refl w2.heap.size w2).alloc (Nat.le_refl _) (.cells (treeCs (outN (parseX s)) aA ac kA kc) 28 (0, 0))
  have hq := heap_alloc_new w2 (.cells (treeCs (outN (parseX s)) aA ac kA kc) 28 (0, 0))
  have HB2 := Lib.hid ((HB1.out.trans (hb2.mono HB1.out.size)).trans (hb23.mono (HB1.out.trans (hb2.mono HB1.out.size)).size))
  have HT1 := Lib.hid (ht1.below hb23)
  have HQ := Lib.hid hq
  obtain ⟨c, hc⟩ : ∃ c : UInt8, 97 + (j : Int) = c.toNat := ⟨UInt8.ofNat (97 + j), by rw [UInt8.toNat_ofNat', Nat.mod_eq_of_lt (by omega)]; omega⟩
  obtain ⟨w3, hw3⟩ : ∃ w3, w3 = w2.alloc (.cells (treeCs (outN (parseX s)) aA ac kA kc) 28 (0, 0)) := ⟨_, rfl⟩
  have hcv := letter_conv w3 c _ rfl
  rw [show w3.heap.size = w2.heap.size + 1 by rw [hw3]; exact World.size_alloc ..] at hcv
  have HW3 := Lib.hid hw3
  clear hb2 hb23 hq ht1 HB1
  rw [hw3] at hcv
  clear hw3
  obtain ⟨X1, hX1⟩ : ∃ X, X = parseX s := ⟨_, rfl⟩
  rw [← hX1] at HB2 HT1 HQ HW3 hcv ⊢
  have HX1 := Lib.hid hX1
  clear hX1
  generalize hN1 : outN X1 = N1 at *
  have HN1 := Lib.hid hN1
  clear hN1
  unfold treeCs at HB2 HT1 HQ HW3 hcv ⊢
  have hl9 : s.length ≤ 60000 := by omega
  go_wp2_with fail
  refine (HPa.out (preN c s) _ ?_ ?_).mono ?_
  · exact HB2.out.alloc HB2.out.size _
  · unfold preN noiseN; simp only [List.length_append, List.length_cons, List.length_nil]; omega
  have hb3a := (Below.refl (w2.alloc (.cells #[.string ⟨N1.text.toArray⟩, .string ⟨N1.space.toArray⟩, .string ⟨N1.name.toArray⟩, .slice aA N1.attrs.length ac, .slice kA N1.kids.length kc] 28 (0, 0))).heap.size (w2.alloc (.cells #[.string ⟨N1.text.toArray⟩, .string ⟨N1.space.toArray⟩, .string ⟨N1.name.toArray⟩, .slice aA N1.attrs.length ac, .slice kA N1.kids.length kc] 28 (0, 0)))).alloc (Nat.le_refl _) (.cells #[.int .u8 (c.toNat : Int)] 5 (0, 0))
  generalize w2.alloc (.cells #[.string ⟨N1.text.toArray⟩, .string ⟨N1.space.toArray⟩, .string ⟨N1.name.toArray⟩, .slice aA N1.attrs.length ac, .slice kA N1.kids.length kc] 28 (0, 0)) = w3 at *
  generalize w3.alloc (.cells #[.int .u8 (c.toNat : Int)] 5 (0, 0)) = w4 at *
  rintro e w5 ⟨hb5, aA2, ac2, kA2, kc2, rfl, ht2⟩
  obtain ⟨q1, hq1⟩ : ∃ q, q = w2.heap.size := ⟨_, rfl⟩
  rw [← hq1] at HQ ⊢
  clear hq1 HW3 hcv
  have hb35 := hb3a.trans (hb5.mono hb3a.size)
  have HT1' := Lib.hid (HT1.out.below hb35)
  have hq1 := (hb35.block _ (xlt HQ.out)).trans HQ.out
  have HB5 := Lib.hid (HB2.out.trans (hb35.mono HB2.out.size))
  obtain ⟨X2, hX2⟩ : ∃ X, X = parseX (preN c s) := ⟨_, rfl⟩
  rw [← hX2] at ht2 ⊢
  have HX2 := Lib.hid hX2
  clear hX2
  generalize hN2 : outN X2 = N2 at *
  have HN2 := Lib.hid hN2
  clear hN2
  have hb6 := (Below.refl w5.heap.size w5).alloc (Nat.le_refl _) (.cells (treeCs N2 aA2 ac2 kA2 kc2) 28 (0, 0))
  have HQ2 := Lib.hid (heap_alloc_new w5 (.cells (treeCs N2 aA2 ac2 kA2 kc2) 28 (0, 0)))
  have HT2 := Lib.hid (ht2.below hb6)
  have HT1 := Lib.hid (HT1'.out.below hb6)
  have HQ1 := Lib.hid ((hb6.block _ (xlt hq1)).trans hq1)
  have HB6 := Lib.hid (HB5.out.trans (hb6.mono HB5.out.size))
  clear hb3a hb5 hb35 hq1 ht2 hb6 HT1' HB2 HB5 HQ
  unfold treeCs at HQ2 HT2 HT1 HQ1 HB6 ⊢
  go_wp2_with fail
  refine (HPa.out (s ++ tailN c) _ HB6.out ?_).mono ?_
  · unfold tailN piN noiseN; simp only [List.length_append, List.length_cons, List.length_nil]; omega
  generalize w5.alloc (.cells #[.string ⟨N2.text.toArray⟩, .string ⟨N2.space.toArray⟩, .string ⟨N2.name.toArray⟩, .slice aA2 N2.attrs.length ac2, .slice kA2 N2.kids.length kc2] 28 (0, 0)) = w6 at *
  rintro e w7 ⟨hb7, aA3, ac3, kA3, kc3, rfl, ht3⟩
  obtain ⟨q2, hq2e⟩ : ∃ q, q = w5.heap.size := ⟨_, rfl⟩
  rw [← hq2e] at HQ2 ⊢
  clear hq2e
  obtain ⟨X3, hX3⟩ : ∃ X, X = parseX (s ++ tailN c) := ⟨_, rfl⟩
  rw [← hX3] at ht3 ⊢
  have HX3 := Lib.hid hX3
  clear hX3
  generalize hN3 : outN X3 = N3 at *
  have HN3 := Lib.hid hN3
  clear hN3
  have hb8 := (Below.refl w7.heap.size w7).alloc (Nat.le_refl _) (.cells (treeCs N3 aA3 ac3 kA3 kc3) 28 (0, 0))
  have HQ3 := Lib.hid (heap_alloc_new w7 (.cells (treeCs N3 aA3 ac3 kA3 kc3) 28 (0, 0)))
  have HT3 := Lib.hid (ht3.below hb8)
  have hb68 := hb7.trans (hb8.mono hb7.size)
  have HT1 := Lib.hid (HT1.out.below hb68)
  have HT2 := Lib.hid (HT2.out.below hb68)
  have HQ1 := Lib.hid ((hb68.block _ (xlt HQ1.out)).trans HQ1.out)
  have HQ2 := Lib.hid ((hb68.block _ (xlt HQ2.out)).trans HQ2.out)
  have HB8 := Lib.hid (HB6.out.trans (hb68.mono HB6.out.size))
  clear hb7 ht3 hb8 hb68 HB6
  unfold treeCs at HQ3 HT3 HT2 HT1 HQ1 HQ2 HB8 ⊢
  go_upto_region 7 with (fail)
  generalize w7.alloc (.cells #[.string ⟨N3.text.toArray⟩, .string ⟨N3.space.toArray⟩, .string ⟨N3.name.toArray⟩, .slice aA3 N3.attrs.length ac3, .slice kA3 N3.kids.length kc3] 28 (0, 0)) = w9 at *
  obtain ⟨q3, hq3e⟩ : ∃ q, q = w7.heap.size := ⟨_, rfl⟩
  rw [← hq3e] at HQ3 ⊢
  clear hq3e
  obtain ⟨D, hD⟩ : ∃ D, D = declared s := ⟨_, rfl⟩
  have HD := Lib.hid hD
  clear hD
  go_cut [12] (fun v wc => v = .bool D ∧ wc = w9)
  case first =>
    clear HX1 HX2 HX3 HPa HT1 HT2 HT3 HQ1 HQ2 HQ3 HB8
    by_cases h5 : 5 < s.length
    · have j5 : (5 : Int) < s.length := by omega
      have j5' : (5 : Int) ≤ s.length := by omega
      obtain ⟨x, q, hdx⟩ : ∃ x q, s.drop 5 = x :: q := by
        rcases h : s.drop 5 with _ | ⟨x, q⟩
        · have := congrArg List.length h; rw [List.length_drop, List.length_nil] at this; omega
        · exact ⟨x, q, rfl⟩
      have hx5 : s[5]? = some x := by have := congrArg (fun l => l[0]?) hdx; simpa using this
      by_cases hp : s.take 5 = [60, 63, 120, 109, 108]
      · have HDx := Lib.hid (show D = whC x by rw [HD.out]; exact declared_yes (by unfold wDecl; rw [List.isPrefixOf_iff_prefix, ← hp]; exact List.take_prefix 5 s) hdx)
        clear HD hdx
        have hxe : (⟨s.toArray⟩ : ByteArray)[5]'(show 5 < s.toArray.size by simpa using h5) = x := by
          have h0 : s[5]'h5 = x := by rw [List.getElem?_eq_getElem h5] at hx5; exact Option.some.inj hx5
          rw [← h0]
          rfl
        clear hx5
        have h8 := Lib.hid (u8_allX (fun c => ((c.toNat : Int) == 9 || (c.toNat : Int) == 10 || (c.toNat : Int) == 13 || (c.toNat : Int) == 32) == whC c) (by decide +kernel) x)
        go_wp2
        all_goals
          go_meet
          refine ⟨congrArg Value.bool ?_, rfl⟩
          rw [HDx.out]
          first | simpa using h8.out | (unfold whC; simp only [Bool.true_eq, decide_eq_true_eq]; omega) | (unfold whC; simp only [Bool.false_eq, decide_eq_false_iff_not]; omega) | (unfold whC; rw [Bool.eq_iff_iff]; simp; omega)
      · have hd : D = false := by
          rw [HD.out]
          refine declared_no ?_
          rw [Bool.eq_false_iff, ne_eq, List.isPrefixOf_iff_prefix]
          intro hpre
          exact hp (List.prefix_iff_eq_take.1 hpre).symm
        clear hdx
        subst hd
        go_wp2
        go_meet
        exact ⟨rfl, rfl⟩
    · have hd : D = false := by rw [HD.out]; unfold declared; rw [decide_eq_false h5]; simp
      have j5 : ¬ (5 : Int) < s.length := by omega
      subst hd
      go_wp2
      go_meet
      exact ⟨rfl, rfl⟩
  case rest =>
  obtain ⟨rfl, rfl⟩ := hcut
  have HL := Lib.hid (noise_law hl9 (c := c) (by omega) (by omega))
  rw [← HX1.out, ← HX2.out, ← HX3.out, ← HD.out] at HL
  clear HX1 HX2 HX3 HD HPa hc m1 m2 m3
  rcases HL.out with ⟨k, hk, hcase⟩ | ⟨n, h1, h3, h2⟩
  · have he1 : outE X1 = k := by rw [hk]; rfl
    rw [he1]
    clear hk he1 HL
    rcases hcase with rfl | rfl | ⟨rfl, hcase⟩
    · go_wp2
      rw [HEE.out]
      exact ⟨rfl, HB8.out⟩
    · go_wp2
      rw [HEE.out]
      exact ⟨rfl, HB8.out⟩
    · by_cases he2 : outE X2 = 30
      · rw [he2]
        go_wp2
        rw [HEE.out]
        exact ⟨rfl, HB8.out⟩
      · obtain rfl : D = true := hcase.resolve_right he2
        generalize outE X2 = k2 at *
        go_wp2
        rw [HEE.out]
        exact ⟨rfl, HB8.out⟩
  have he1 : outE X1 = 0 := by rw [h1]; rfl
  have he3 : outE X3 = 0 := by rw [h3]; rfl
  obtain rfl : n = N1 := by rw [← HN1.out, h1]; rfl
  obtain rfl : n = N3 := by rw [← HN3.out, h3]; rfl
  have HS13 := Lib.hid (fun w' (hb : Below wc.heap.size wc w') => same_tree (HT1.out.below hb) (HT3.out.below hb))
  have x0 := xat HQ1.out 0
  have x1 := xat HQ1.out 1
  have x2 := xat HQ1.out 2
  have x3 := xat HQ1.out 3
  have x4 := xat HQ1.out 4
  have z0 := xat HQ3.out 0
  have z1 := xat HQ3.out 1
  have z2 := xat HQ3.out 2
  have z3 := xat HQ3.out 3
  have z4 := xat HQ3.out 4
  simp only [List.getElem?_toArray, List.getElem?_cons_zero, List.getElem?_cons_succ] at x0 x1 x2 x3 x4 z0 z1 z2 z3 z4
  rw [he1, he3]
  rcases h2 with ⟨rfl, h2⟩ | ⟨rfl, h2⟩
  · have he2 : outE X2 = 30 := by rw [h2]; rfl
    rw [he2]
    clear he1 he2 he3 h1 h2 h3 HL
    go_wp2_with fail
    refine (HS13.out wc (Below.refl _ _)).mono ?_
    rintro e w10 ⟨rfl, hb10⟩
    go_wp2
    rw [HEE.out]
    exact ⟨rfl, HB8.out.trans (hb10.mono HB8.out.size)⟩
  · have he2 : outE X2 = 0 := by rw [h2]; rfl
    obtain rfl : n = N2 := by rw [← HN2.out, h2]; rfl
    have HS12 := Lib.hid (same_tree HT1.out HT2.out)
    have y0 := xat HQ2.out 0
    have y1 := xat HQ2.out 1
    have y2 := xat HQ2.out 2
    have y3 := xat HQ2.out 3
    have y4 := xat HQ2.out 4
    simp only [List.getElem?_toArray, List.getElem?_cons_zero, List.getElem?_cons_succ] at y0 y1 y2 y3 y4
    rw [he2]
    clear he1 he2 he3 h1 h2 h3 HL
    go_wp2_with fail
    refine HS12.out.mono ?_
    rintro e w10 ⟨rfl, hb10⟩
    have a1 := (hb10.block _ (xlt HQ1.out)).trans HQ1.out
    have a3 := (hb10.block _ (xlt HQ3.out)).trans HQ3.out
    clear x0 x1 x2 x3 x4 y0 y1 y2 y3 y4 z0 z1 z2 z3 z4
    have x0 := xat a1 0
    have x1 := xat a1 1
    have x2 := xat a1 2
    have x3 := xat a1 3
    have x4 := xat a1 4
    have z0 := xat a3 0
    have z1 := xat a3 1
    have z2 := xat a3 2
    have z3 := xat a3 3
    have z4 := xat a3 4
    simp only [List.getElem?_toArray, List.getElem?_cons_zero, List.getElem?_cons_succ] at x0 x1 x2 x3 x4 z0 z1 z2 z3 z4
    clear a1 a3
    go_wp2_with fail
    refine (HS13.out w10 hb10).mono ?_
    rintro e w11 ⟨rfl, hb11⟩
    go_wp2
    rw [HEE.out]
    exact ⟨rfl, (HB8.out.trans (hb10.mono HB8.out.size)).trans (hb11.mono (HB8.out.trans (hb10.mono HB8.out.size)).size)⟩
end Go.Proofs.YtkmpilnjhlnmfaaGreatDoor

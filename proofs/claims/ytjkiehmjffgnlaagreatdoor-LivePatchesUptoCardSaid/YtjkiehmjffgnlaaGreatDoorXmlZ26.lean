import Derived.Test.YtjkiehmjffgnlaaGreatDoorXmlZ25
namespace Go.Proofs.YtjkiehmjffgnlaaGreatDoor
set_option linter.unusedVariables false
set_option linter.unusedSimpArgs false
open Go.RowKit

theorem attr_same (a b : List UInt8) (w : World) : (binOp .neq 87 (.agg #[.string ⟨a.toArray⟩, .string ⟨b.toArray⟩]) (.agg #[.string ⟨a.toArray⟩, .string ⟨b.toArray⟩])).run Tryz.prog w = .ok (.bool false) w := by
  go_simp
set_option maxHeartbeats 16000000 in
set_option maxRecDepth 100000 in
set_option linter.unusedSimpArgs false in
theorem xsame_any {w : World} {cs : List Value} {n : NodeT} (h : NodeP anyB w cs n) : ∀ cs2, NodeP anyB w cs2 n → ∀ w', Below w.heap.size w w' → Calls Tryz.prog 29 #[.agg cs.toArray, .agg cs2.toArray] w' (Ret (.bool true) w') := by
  induction h with
  | mk t s n ats ks av A cap rows ha hl hm hA hc hk ih =>
  intro cs2 h2 w' hbw
  obtain ⟨av2, kv2, rfl, ha2, hk2⟩ := h2.parts
  obtain ⟨avA, avc, rfl⟩ := tab_shape ha.1
  obtain ⟨bvA, bvc, rfl⟩ := tab_shape ha2.1
  obtain ⟨kA, kc, rfl⟩ := tab_shape hk2.1
  obtain ⟨-, hac, ham, hat⟩ := attrs_at ha
  obtain ⟨-, hac2, ham2, hat2⟩ := attrs_at ha2
  obtain ⟨-, hkc2, hkm2, hkt2⟩ := kid_at hk2
  unfold maxLen at hm ham ham2 hkm2
  replace hac2 : ats.length ≤ bvc := hac2
  replace hkc2 : ks.length ≤ kc := hkc2
  have HAt := Lib.hid hat
  have HAt2 := Lib.hid (show ∀ j a, ats[j]? = some a → _ from hat2)
  have HKt2 := Lib.hid (show ∀ j x, ks[j]? = some x → _ from hkt2)
  have HIH := Lib.hid ih
  have HRow := Lib.hid (fun j x (hx : ks[j]? = some x) => row_at (b := 0) (o := 0) (v := .pointer none) hc (List.getElem?_eq_some_iff.1 hx).1 (hk j x hx))
  show Calls Tryz.prog 29 #[.agg #[.string ⟨t.toArray⟩, .string ⟨s.toArray⟩, .string ⟨n.toArray⟩, .slice avA ats.length avc, .slice A ks.length cap], .agg #[.string ⟨t.toArray⟩, .string ⟨s.toArray⟩, .string ⟨n.toArray⟩, .slice bvA ats.length bvc, .slice kA ks.length kc]] w' (Ret (.bool true) w')
  obtain ⟨E, hEE⟩ : ∃ E, E = Ret (.bool true) w' := ⟨_, rfl⟩
  rw [← hEE]
  have HEE := Lib.hid hEE
  have HBw := Lib.hid hbw
  have hb1 : Below w'.heap.size w' (w'.alloc (.cells #[.string ⟨t.toArray⟩, .string ⟨s.toArray⟩, .string ⟨n.toArray⟩, .slice avA ats.length avc, .slice A ks.length cap] 46 (0, 0))) := (Below.refl _ _).alloc (Nat.le_refl _) _
  have hq1 := heap_alloc_new w' (.cells #[.string ⟨t.toArray⟩, .string ⟨s.toArray⟩, .string ⟨n.toArray⟩, .slice avA ats.length avc, .slice A ks.length cap] 46 (0, 0))
  have hz1 : (w'.alloc (.cells #[.string ⟨t.toArray⟩, .string ⟨s.toArray⟩, .string ⟨n.toArray⟩, .slice avA ats.length avc, .slice A ks.length cap] 46 (0, 0))).heap.size = w'.heap.size + 1 := World.size_alloc ..
  have hb2 := hb1.alloc (hb1.size) (.cells #[.string ⟨t.toArray⟩, .string ⟨s.toArray⟩, .string ⟨n.toArray⟩, .slice bvA ats.length bvc, .slice kA ks.length kc] 46 (0, 0))
  have hq2 := heap_alloc_new (w'.alloc (.cells #[.string ⟨t.toArray⟩, .string ⟨s.toArray⟩, .string ⟨n.toArray⟩, .slice avA ats.length avc, .slice A ks.length cap] 46 (0, 0))) (.cells #[.string ⟨t.toArray⟩, .string ⟨s.toArray⟩, .string ⟨n.toArray⟩, .slice bvA ats.length bvc, .slice kA ks.length kc] 46 (0, 0))
  have hq1' := (heap_alloc_old (w'.alloc (.cells #[.string ⟨t.toArray⟩, .string ⟨s.toArray⟩, .string ⟨n.toArray⟩, .slice avA ats.length avc, .slice A ks.length cap] 46 (0, 0))) (.cells #[.string ⟨t.toArray⟩, .string ⟨s.toArray⟩, .string ⟨n.toArray⟩, .slice bvA ats.length bvc, .slice kA ks.length kc] 46 (0, 0)) (by rw [hz1]; omega)).trans hq1
  rw [hz1] at hq2
  have HB0 := Lib.hid hb2
  have HQ1 := Lib.hid hq1'
  have HQ2 := Lib.hid hq2
  have HS := Lib.hid (fun (w2 : World) (h1 : w2.heap[w'.heap.size]? = some (.cells #[.string ⟨t.toArray⟩, .string ⟨s.toArray⟩, .string ⟨n.toArray⟩, .slice avA ats.length avc, .slice A ks.length cap] 46 (0, 0))) (h2 : w2.heap[w'.heap.size + 1]? = some (.cells #[.string ⟨t.toArray⟩, .string ⟨s.toArray⟩, .string ⟨n.toArray⟩, .slice bvA ats.length bvc, .slice kA ks.length kc] 46 (0, 0))) =>
    (⟨xat h1 0, xat h1 1, xat h1 2, xat h1 3, xat h1 4, xat h2 0, xat h2 1, xat h2 2, xat h2 3, xat h2 4⟩ : (w2.cell? ⟨w'.heap.size, 0, none⟩ = some (.string ⟨t.toArray⟩) ∧ w2.cell? ⟨w'.heap.size, 1, none⟩ = some (.string ⟨s.toArray⟩) ∧ w2.cell? ⟨w'.heap.size, 2, none⟩ = some (.string ⟨n.toArray⟩) ∧ w2.cell? ⟨w'.heap.size, 3, none⟩ = some (.slice avA ats.length avc) ∧ w2.cell? ⟨w'.heap.size, 4, none⟩ = some (.slice A ks.length cap) ∧
     w2.cell? ⟨w'.heap.size + 1, 0, none⟩ = some (.string ⟨t.toArray⟩) ∧ w2.cell? ⟨w'.heap.size + 1, 1, none⟩ = some (.string ⟨s.toArray⟩) ∧ w2.cell? ⟨w'.heap.size + 1, 2, none⟩ = some (.string ⟨n.toArray⟩) ∧ w2.cell? ⟨w'.heap.size + 1, 3, none⟩ = some (.slice bvA ats.length bvc) ∧ w2.cell? ⟨w'.heap.size + 1, 4, none⟩ = some (.slice kA ks.length kc))))
  obtain ⟨x0, x1, x2, x3, x4, y0, y1, y2, y3, y4⟩ := HS.out _ hq1' hq2
  clear hb1 hq1 hq1' hq2 hb2 ih hk hc hA ha hbw h2 ha2 hk2 hat hat2 hkt2 hEE
  go_enter Tryz.func29, Tryz.ntmps29
  go_wp2_with fail
  generalize (w'.alloc (.cells #[.string ⟨t.toArray⟩, .string ⟨s.toArray⟩, .string ⟨n.toArray⟩, .slice avA ats.length avc, .slice A ks.length cap] 46 (0, 0))).alloc (.cells #[.string ⟨t.toArray⟩, .string ⟨s.toArray⟩, .string ⟨n.toArray⟩, .slice bvA ats.length bvc, .slice kA ks.length kc] 46 (0, 0)) = w1 at *
  clear x0 x1 x2 x3 x4 y0 y1 y2 y3 y4 hz1
  have HW1 := Lib.hid (HBw.out.trans (HB0.out.mono HBw.out.size))
  have HSx := Lib.hid (fun w2 (hb : Below w1.heap.size w1 w2) => HS.out w2 ((hb.block _ (xlt HQ1.out)).trans HQ1.out) ((hb.block _ (xlt HQ2.out)).trans HQ2.out))
  obtain ⟨q1, hq1⟩ : ∃ q, q = w'.heap.size := ⟨_, rfl⟩
  rw [← hq1] at HSx ⊢
  clear HS HQ1 HQ2 hq1
  go_loopg [5] ats.length (fun gk iv wr => ∃ (i : Nat), i + gk = ats.length ∧ iv = .int .i64 i ∧ Hid (Below w1.heap.size w1 wr))
  case atStart => exact ⟨0, by omega, rfl, Lib.hid (Below.refl _ _)⟩
  case round =>
    obtain ⟨i, hi, rfl, hbr⟩ := hrel
    obtain ⟨x0, x1, x2, x3, x4, y0, y1, y2, y3, y4⟩ := HSx.out wr hbr.out
    clear x0 x1 x2 x4 y0 y1 y2 y4
    rcases Nat.lt_or_ge i ats.length with hlt | hge
    · obtain ⟨a, hx⟩ : ∃ a, ats[i]? = some a := ⟨_, List.getElem?_eq_getElem hlt⟩
      obtain ⟨b1, o1, rfl, hbl1, e0, e1⟩ := HAt.out i a hx
      obtain ⟨b2, o2, rfl, hbl2, f0, f1⟩ := HAt2.out i a hx
      have hbx := HW1.out.trans (hbr.out.mono HW1.out.size)
      have d0 := (hbx.cell (p := ⟨b1, o1 + i * 2, none⟩) hbl1).trans e0
      have d1 := (hbx.cell (p := ⟨b1, o1 + i * 2 + 1, none⟩) hbl1).trans e1
      have g0 := (hbx.cell (p := ⟨b2, o2 + i * 2, none⟩) hbl2).trans f0
      have g1 := (hbx.cell (p := ⟨b2, o2 + i * 2 + 1, none⟩) hbl2).trans f1
      obtain ⟨an, av⟩ := a
      simp only at d0 d1 g0 g1
      have k1 : (i : Int) < ats.length := by omega
      have k2 : (0 : Int) ≤ i := by omega
      have hsm := attr_same an av
      have HBD := Lib.hid (fun k => below_draws hbr.out k)
      clear e0 e1 f0 f1 hbx hx
      go_wp2
      go_quiet (fail)
      go_wp2
      go_roundg (gk - 1)
      case measure => omega
      case rel => exact ⟨i + 1, by omega, by go_num, Lib.hid (HBD.out _)⟩
    · have hie : i = ats.length := by omega
      subst hie
      go_wp2_with fail
      clear x3 y3
      go_loopg [6] ks.length (fun gk iv wr => ∃ (i : Nat), i + gk = ks.length ∧ iv = .int .i64 i ∧ Hid (Below w1.heap.size w1 wr))
      case atStart => exact ⟨0, by omega, rfl, hbr⟩
      case round =>
        obtain ⟨i, hi2, rfl, hbr2⟩ := hrel
        obtain ⟨x0, x1, x2, x3, x4, y0, y1, y2, y3, y4⟩ := HSx.out _ hbr2.out
        clear x0 x1 x2 x3 y0 y1 y2 y3 hbr
        rcases Nat.lt_or_ge i ks.length with hlt2 | hge2
        · obtain ⟨x, hx⟩ : ∃ x, ks[i]? = some x := ⟨_, List.getElem?_eq_getElem hlt2⟩
          obtain ⟨b1, o1, aA, ac, kB, kcc, rfl, hbl1, hrow, e0, e1, e2, e3, e4⟩ := HRow.out i x hx
          obtain ⟨b2, o2, aA2, ac2, kB2, kcc2, rfl, hbl2, f0, f1, f2, f3, f4, fa, fk⟩ := HKt2.out i x hx
          have hbx := HW1.out.trans (hbr2.out.mono HW1.out.size)
          have d0 := (hbx.cell (p := ⟨b1, o1 + i * 5, none⟩) hbl1).trans e0
          have d1 := (hbx.cell (p := ⟨b1, o1 + i * 5 + 1, none⟩) hbl1).trans e1
          have d2 := (hbx.cell (p := ⟨b1, o1 + i * 5 + 2, none⟩) hbl1).trans e2
          have d3 := (hbx.cell (p := ⟨b1, o1 + i * 5 + 3, none⟩) hbl1).trans e3
          have d4 := (hbx.cell (p := ⟨b1, o1 + i * 5 + 4, none⟩) hbl1).trans e4
          have g0 := (hbx.cell (p := ⟨b2, o2 + i * 5, none⟩) hbl2).trans f0
          have g1 := (hbx.cell (p := ⟨b2, o2 + i * 5 + 1, none⟩) hbl2).trans f1
          have g2 := (hbx.cell (p := ⟨b2, o2 + i * 5 + 2, none⟩) hbl2).trans f2
          have g3 := (hbx.cell (p := ⟨b2, o2 + i * 5 + 3, none⟩) hbl2).trans f3
          have g4 := (hbx.cell (p := ⟨b2, o2 + i * 5 + 4, none⟩) hbl2).trans f4
          have HCl := Lib.hid (fun wx (hb : Below w.heap.size w wx) => HIH.out i x hx [.string ⟨x.text.toArray⟩, .string ⟨x.space.toArray⟩, .string ⟨x.name.toArray⟩, .slice aA2 x.attrs.length ac2, .slice kB2 x.kids.length kcc2] (by have := NodeP.of (t := x.text) (s := x.space) (n := x.name) fa fk; obtain ⟨t', s', m', at', k'⟩ := x; exact this) wx hb)
          rw [hrow] at HCl
          have HCd := Lib.hid (HCl.out _ (below_draws hbx 1))
          have HBD := Lib.hid (below_draws hbr2.out 1)
          have k1 : (i : Int) < ks.length := by omega
          have k2 : (0 : Int) ≤ i := by omega
          clear e0 e1 e2 e3 e4 f0 f1 f2 f3 f4 hbx hx fa fk hrow HCl
          go_upto_region 11 with (fail)
          first | go_region_with (go_at_call 29; refine HCd.out.mono ?_; rintro e w5 ⟨rfl, hb5⟩) | fail
          all_goals
            go_wp2
            go_roundg (gk - 1)
            case measure => omega
            case rel => exact ⟨i + 1, by omega, by go_num, Lib.hid (HBD.out.trans (hb5.mono HBD.out.size))⟩
        · have hie2 : i = ks.length := by omega
          subst hie2
          go_wp2
          rw [HEE.out]
          exact ⟨rfl, HB0.out.trans (hbr2.out.mono HB0.out.size)⟩
end Go.Proofs.YtjkiehmjffgnlaaGreatDoor
namespace Go.Proofs.YtjkiehmjffgnlaaGreatDoor
set_option linter.unusedVariables false
set_option linter.unusedSimpArgs false
open Go.RowKit

theorem parse_err {s : List UInt8} {k : Int} (h : parseX s = .error k) : k = 5 ∨ k = 30 ∨ k = 31 := by
  unfold parseX at h
  repeat' (first | split at h | skip)
  all_goals first | (injection h with h; omega) | skip
  simp only at h
  repeat' split at h
  all_goals first | (injection h with h; omega) | cases h
theorem letter_conv (w : World) (c : UInt8) (z : Int) (hz : z = c.toNat) : (convert 116 9 (.slice (some ⟨w.heap.size, 0, none⟩) 1 1)).run Tryz.prog (w.alloc (.cells #[.int .u8 z] 5 (0, 0))) = .ok (.string ⟨#[c]⟩) (w.alloc (.cells #[.int .u8 z] 5 (0, 0))) := by
  subst hz
  refine conv_bytes _ _ [c] ⟨_, 1, rfl, Nat.le_refl _, by unfold maxLen; decide, fun j u hj => ⟨w.heap.size, 0, rfl, by rw [World.size_alloc]; omega, ?_⟩⟩
  rw [xat (heap_alloc_new w _), Nat.zero_add, ← hj]
  unfold vbytes
  simp
/-- the three answers. -/
theorem noise_law {s : List UInt8} (hs : s.length ≤ 60000) {c : UInt8} (h1 : 97 ≤ c.toNat) (h2 : c.toNat ≤ 122) :
    (∃ k, parseX s = .error k ∧ (k = 5 ∨ k = 31 ∨ (k = 30 ∧ (declared s = true ∨ outE (parseX (preN c s)) = 30)))) ∨
    ∃ n, parseX s = .ok n ∧ parseX (s ++ tailN c) = .ok n ∧ ((declared s = true ∧ parseX (preN c s) = .error 30) ∨ (declared s = false ∧ parseX (preN c s) = .ok n)) := by
  obtain ⟨p1, p2⟩ := parse_pre h1 h2 hs
  cases hx : parseX s with
  | error k =>
    refine .inl ⟨k, rfl, ?_⟩
    rcases parse_err hx with h | h | h
    · exact .inl h
    · refine .inr (.inr ⟨h, ?_⟩)
      cases hd : declared s with
      | true => exact .inl rfl
      | false => exact .inr (by rw [p1 hd, hx, h]; rfl)
    · exact .inr (.inl h)
  | ok n =>
    refine .inr ⟨n, rfl, parse_tail h1 h2 hs hx, ?_⟩
    cases hd : declared s with
    | true => exact .inl ⟨rfl, p2 hd n hx⟩
    | false => exact .inr ⟨rfl, by rw [p1 hd, hx]⟩
theorem TreeV.node {w : World} {n : NodeT} {aA kA : Option Addr} {ac kc : Nat} (h : TreeV w n aA ac kA kc) : NodeP anyB w [.string ⟨n.text.toArray⟩, .string ⟨n.space.toArray⟩, .string ⟨n.name.toArray⟩, .slice aA n.attrs.length ac, .slice kA n.kids.length kc] n := by
  have := NodeP.of (t := n.text) (s := n.space) (n := n.name) h.at_ h.kd
  obtain ⟨t, s, m, ats, ks⟩ := n
  exact this
theorem same_tree {w : World} {n : NodeT} {aA kA aB kB : Option Addr} {ac kc bc lc : Nat} (h1 : TreeV w n aA ac kA kc) (h2 : TreeV w n aB bc kB lc) :
    Calls Tryz.prog 29 #[.agg #[.string ⟨n.text.toArray⟩, .string ⟨n.space.toArray⟩, .string ⟨n.name.toArray⟩, .slice aA n.attrs.length ac, .slice kA n.kids.length kc], .agg #[.string ⟨n.text.toArray⟩, .string ⟨n.space.toArray⟩, .string ⟨n.name.toArray⟩, .slice aB n.attrs.length bc, .slice kB n.kids.length lc]] w (Ret (.bool true) w) :=
  xsame_any h1.node _ h2.node w (Below.refl _ _)
end Go.Proofs.YtjkiehmjffgnlaaGreatDoor

import Derived.Test.YtjkiehmjffgnlaaGreatDoorXmlZ15
import Derived.Test.YtjkiehmjffgnlaaGreatDoorXmlZ10
namespace Go.Proofs.YtjkiehmjffgnlaaGreatDoor
set_option linter.unusedVariables false
set_option linter.unusedSimpArgs false
open Go.RowKit

/-- neither the builder nor its row. -/
def offB (b : Nat) (r : Option Nat) (k : Nat) : Prop := k ≠ b ∧ some k ≠ r
theorem BFr.moves {b : Nat} {r r' : Option Nat} {w w' : World} (h : BFr b r r' w w') : Moves (offB b r) (offB b r') w w' := by
  refine ⟨h.size, fun k hk hlt => ⟨⟨hk.1, fun e => ?_⟩, h.block k hlt hk.1 hk.2⟩⟩
  rcases h.row with h | ⟨j, hj, hs⟩
  · exact hk.2 (e.trans h)
  · rw [hj] at e
    injection e with e
    omega
theorem BFr.ofDrew {b : Nat} {r r' : Option Nat} {w w' : World} (h : BFr b r r' w.drew w') : BFr b r r' w w' := ⟨h.os, h.tape, h.output, h.size, h.block, h.row⟩
def BwP (B b : Nat) (r : Option Nat) (l : List UInt8) (w : World) (e : Ending) (w' : World) : Prop := (∃ n er, e = .returned (.tuple #[n, er])) ∧ ∃ r', BldR B b r' l w' ∧ BFr b r r' w w'
set_option maxHeartbeats 400000 in
set_option maxRecDepth 100000 in
set_option linter.unusedSimpArgs false in
theorem getSW (b : Nat) (w : World) : Calls Tryz.prog 218 #[.iface 115 (.pointer (some ⟨b, 0, none⟩))] w (Same0 (.iface 115 (.pointer (some ⟨b, 0, none⟩))) w) := by
  have has : ∀ w : World, (Instr.typeAssert (.iface 115 (.pointer (some ⟨b, 0, none⟩))) 185 293 true).run Tryz.prog w = .ok (.tuple #[.iface 115 (.pointer (some ⟨b, 0, none⟩)), .bool true]) w := fun _ => by kernel_rfl
  go_enter Tryz.func218, Tryz.ntmps218
  go_wp2
  go_ret
  exact ⟨rfl, rfl⟩
theorem TbP.at {P : Nat → Prop} {w : World} {g : Nat} {ps : Pairs} (h : TbP P w g ps) (c : UInt8) : TbC P w g (tblF ps c) (w.cell? ⟨g, c.toNat, none⟩) := by
  obtain ⟨-, arr, v, ht, -⟩ := h
  rw [xat ht.row]
  exact ht.cell c
theorem seg_app (s : List UInt8) {la i : Nat} (h1 : la ≤ i) (h2 : i ≤ s.length) : s.take i = s.take la ++ (s.take i).drop la := by
  have : s.take la = (s.take i).take la := by rw [List.take_take, Nat.min_eq_left h1]
  rw [this, List.take_append_drop]
theorem seg_next {s q : List UInt8} {x : UInt8} {la i : Nat} (h1 : la ≤ i) (hd : s.drop i = x :: q) : (s.take (i + 1)).drop la = (s.take i).drop la ++ [x] := by
  obtain ⟨hk, ht⟩ := fl_take hd
  rw [ht, List.drop_append_of_le_length (by rw [List.length_take]; omega)]
theorem seg_none {ps : Pairs} {s q : List UInt8} {x : UInt8} {m k : Nat} (h1 : m ≤ k) (hd : s.drop k = x :: q) (hx : tblF ps x = none) (h : repP ps ((s.take k).drop m) = (s.take k).drop m) : repP ps ((s.take (k + 1)).drop m) = (s.take (k + 1)).drop m := by
  rw [seg_next h1 hd, repP_app, h]
  congr 1
  rw [repP_cons]
  unfold repF
  rw [hx]
  rfl
theorem seg_some {ps : Pairs} {s q u : List UInt8} {x : UInt8} {k : Nat} (hd : s.drop k = x :: q) (hx : tblF ps x = some u) : repP ps (s.take (k + 1)) = repP ps (s.take k) ++ u := by
  rw [(fl_take hd).2, repP_app]
  congr 1
  rw [repP_cons]
  unfold repF
  rw [hx]
  exact List.append_nil _
theorem seg_empty (ps : Pairs) (s : List UInt8) (k : Nat) : repP ps ((s.take k).drop k) = (s.take k).drop k := by
  have : (s.take k).drop k = [] := List.drop_eq_nil_of_le (by rw [List.length_take]; omega)
  rw [this]
  rfl
set_option maxHeartbeats 16000000 in
set_option maxRecDepth 100000 in
set_option linter.unusedSimpArgs false in
theorem xbsWrite (ps : Pairs) (hps : WideP ps) (g B b : Nat) (r : Option Nat) (l s : List UInt8) (w : World) (hb : BldR B b r l w) (ht : TbP (offB b r) w g ps) (hs : s.length ≤ 1000000000) (hl : l.length ≤ 100000000000000) :
    Calls Tryz.prog 225 #[.pointer (some ⟨g, 0, none⟩), .iface 115 (.pointer (some ⟨b, 0, none⟩)), .string ⟨s.toArray⟩] w (BwP B b r (l ++ repP ps s) w) := by
  obtain ⟨E, hEE⟩ : ∃ E, E = BwP B b r (l ++ repP ps s) w := ⟨_, rfl⟩
  rw [← hEE]
  have HEE := Lib.hid hEE
  have HB := Lib.hid hb
  have HT := Lib.hid ht
  have HPS := Lib.hid hps
  have HLen := Lib.hid (fun u : List UInt8 => repP_len6 hps.good u)
  have HSW := Lib.hid (getSW b w)
  clear hEE hb ht hps
  have hn1 : ∀ w : World, (binOp .eql 116 (.slice none 0 0) (.slice none 0 0)).run Tryz.prog w = .ok (.bool true) w := fun w => Lib.run_eql_slice_nil w 116 _ none 0 0 0 0 Tryz.underlying116
  have hn2 : ∀ (q n cap : Nat) (w : World), (binOp .eql 116 (.slice (some ⟨q, 0, none⟩) n cap) (.slice none 0 0)).run Tryz.prog w = .ok (.bool false) w := fun q n cap w => Lib.run_eql_slice_nil w 116 _ (some ⟨q, 0, none⟩) n cap 0 0 Tryz.underlying116
  have hna : ∀ (b : Nat) (w : World), (nilAhead 402 115 (.pointer (some ⟨b, 0, none⟩)) "WriteString").run Tryz.prog w = .ok (some false) w := fun _ _ => by kernel_rfl
  have hnb : ∀ (b : Nat) (w : World), (nilAhead 402 115 (.pointer (some ⟨b, 0, none⟩)) "Write").run Tryz.prog w = .ok (some false) w := fun _ _ => by kernel_rfl
  go_enter Tryz.func225, Tryz.ntmps225
  go_wp2_with fail
  refine HSW.out.mono ?_
  rintro e w0 ⟨rfl, rfl⟩
  clear HSW
  go_wp2_with fail
  go_loopg [6, 7, 9, 10] s.length (fun gk n er la i wr => ∃ (k m : Nat) (z : Int) (r' : Option Nat), k + gk = s.length ∧ m ≤ k ∧ n = .int .i64 z ∧ er = .nilIface ∧ la = .int .i64 m ∧ i = .int .i64 k ∧ Hid (BldR B b r' (l ++ repP ps (s.take m)) wr) ∧ Hid (BFr b r r' w wr) ∧ Hid (repP ps ((s.take k).drop m) = (s.take k).drop m))
  case atStart => exact ⟨0, 0, 0, r, by omega, Nat.le_refl _, rfl, rfl, rfl, rfl, by show BldR B b r (l ++ repP ps (s.take 0)) w; rw [List.take_zero]; show BldR B b r (l ++ []) w; rw [List.append_nil]; exact HB.out, BFr.refl _ _ _, by show repP ps ((s.take 0).drop 0) = _; rw [List.take_zero]; rfl⟩
  case round =>
    obtain ⟨k, m, z, r', hkg, hmk, rfl, rfl, rfl, rfl, HBl, HFr, HSeg⟩ := hrel
    have hml : m ≤ s.length := by omega
    have hkl : k ≤ s.length := by omega
    have HTr := Lib.hid (HT.out.move HFr.out.moves)
    have hlen6 : (repP ps (s.take m)).length ≤ 6 * 1000000000 := by have := HLen.out (s.take m); rw [List.length_take] at this; omega
    rcases hd : s.drop k with _ | ⟨x, q⟩
    · have hk2 : k = s.length := by have := drop_nil hd; omega
      subst hk2
      clear hd
      by_cases hms : m = s.length
      · subst hms
        have HE2 := Lib.hid (show BldR B b r' (l ++ repP ps s) wr by have := HBl.out; rw [List.take_length] at this; exact this)
        go_wp2
        rw [HEE.out]
        exact ⟨⟨_, _, rfl⟩, r', HE2.out, HFr.out⟩
      · have hne : ¬ ((m : Int) = (s.length : Int)) := by omega
        have hmi : (m : Int) ≤ (s.length : Int) := by omega
        have hm0 : (0 : Int) ≤ (m : Int) := by omega
        have HWr := Lib.hid (xwriteS B b r' (l ++ repP ps (s.take m)) (s.drop m) wr.drew (show BldR B b r' _ wr.drew from HBl.out) (by rw [List.length_append, List.length_drop]; omega))
        have HE2 := Lib.hid (show l ++ repP ps (s.take m) ++ s.drop m = l ++ repP ps s by
          have h1 := HSeg.out
          rw [List.take_length] at h1
          rw [List.append_assoc, ← h1, ← repP_app, List.take_append_drop])
        have HFr2 := Lib.hid HFr.out
        have hws : (⟨s.toArray⟩ : ByteArray).size = s.length := rfl
        clear HBl HTr HLen HPS hn1 hn2
        go_upto_region 20 with (fail)
        first | go_region_with (refine (HWr.out).mono ?_; rintro e w5 ⟨rfl, r5, hbl5, hfr5⟩) | fail
        all_goals
          go_wp2
          rw [HEE.out]
          exact ⟨⟨_, _, rfl⟩, r5, by rw [← HE2.out]; exact hbl5, HFr2.out.trans hfr5.ofDrew⟩
    · obtain ⟨hlt, hxb, hr⟩ := drop_cons hd
      have k1 : (k : Int) < s.length := by omega
      have k2 : (0 : Int) ≤ k := by omega
      have hx256 : x.toNat < 256 := x.toNat_lt
      have hat := HTr.out.at x
      have HD := Lib.hid hd
      clear hd hr
      rcases hx : tblF ps x with _ | u
      · rw [hx] at hat
        have hcell : wr.cell? ⟨g, x.toNat, none⟩ = some (.slice none 0 0) := hat
        have HS2 := Lib.hid (seg_none hmk HD.out hx HSeg.out)
        clear hx hat
        go_wp2
        go_roundg (gk - 1)
        case measure => omega
        case rel => exact ⟨k + 1, m, z, r', by omega, by omega, rfl, rfl, rfl, by go_num, HBl, HFr, HS2⟩
      · rw [hx] at hat
        obtain ⟨h, cap, hcell, hc1, hc2, hoff, hhg, hbw⟩ := hat
        have HX := Lib.hid hx
        clear hx hbw hoff
        go_upto_if 37 with (fail)
        go_cut [6, 7] (fun nv ev wc => ∃ (z1 : Int) (r1 : Option Nat), nv = .int .i64 z1 ∧ ev = .nilIface ∧ Hid (BldR B b r1 (l ++ repP ps (s.take k)) wc) ∧ Hid (BFr b r r1 w wc))
        case first =>
          by_cases hms : m = k
          · subst hms
            go_wp2
            go_meet
            exact ⟨z, r', rfl, rfl, HBl, HFr⟩
          · have hne : ¬ ((m : Int) = (k : Int)) := by omega
            have hmi : (m : Int) ≤ (k : Int) := by omega
            have hm0 : (0 : Int) ≤ (m : Int) := by omega
            have hki : (k : Int) ≤ (s.length : Int) := by omega
            have HWr := Lib.hid (xwriteS B b r' (l ++ repP ps (s.take m)) ((s.take k).drop m) wr.drew (show BldR B b r' _ wr.drew from HBl.out) (by rw [List.length_append, List.length_drop, List.length_take]; omega))
            have HE2 := Lib.hid (show l ++ repP ps (s.take m) ++ (s.take k).drop m = l ++ repP ps (s.take k) by
              rw [List.append_assoc, ← HSeg.out, ← repP_app, ← seg_app s hmk hkl])
            clear HBl HTr HLen HPS hcell
            go_upto_region 9 with (fail)
            first | go_region_with (refine (HWr.out).mono ?_; rintro e w5 ⟨rfl, r5, hbl5, hfr5⟩) | fail
            all_goals
              go_wp2
              go_meet
              exact ⟨_, r5, rfl, rfl, by rw [← HE2.out]; exact hbl5, HFr.out.trans hfr5.ofDrew⟩
        case rest =>
        obtain ⟨z1, r1, rfl, rfl, HBc, HFc⟩ := hcut
        clear hcell HBl HTr HFr HSeg
        have hat := (HT.out.move HFc.out.moves).at x
        rw [HX.out] at hat
        obtain ⟨h, cap, hcell, hc1, hc2, hoff, hhg, hbw⟩ := hat
        have hlen7 : (repP ps (s.take k)).length ≤ 6 * 1000000000 := by have := HLen.out (s.take k); rw [List.length_take] at this; omega
        have hul : u.length ≤ 6 := (HPS.out.good.pos _ (tblF_mem HX.out)).2
        have HWr := Lib.hid (xwriteB B b r1 (l ++ repP ps (s.take k)) u h cap wc.drew (show BldR B b r1 _ wc.drew from HBc.out) (show BW wc.drew h u from hbw) hoff.1 hoff.2 (by rw [List.length_append]; omega))
        have HE2 := Lib.hid (show l ++ repP ps (s.take k) ++ u = l ++ repP ps (s.take (k + 1)) by rw [seg_some HD.out HX.out, List.append_assoc])
        have HSe := Lib.hid (seg_empty ps s (k + 1))
        clear HBc hbw hoff
        go_upto_region 14 with (fail)
        first | go_region_with (refine (HWr.out).mono ?_; rintro e w5 ⟨rfl, r5, hbl5, hfr5⟩) | fail
        all_goals
          have HB5 := Lib.hid (show BldR B b r5 (l ++ repP ps (s.take (k + 1))) w5 by rw [← HE2.out]; exact hbl5)
          have HF5 := Lib.hid (HFc.out.trans hfr5.ofDrew)
          clear hbl5 hfr5
          go_wp2
          go_roundg (gk - 1)
          case measure => omega
          case rel => exact ⟨k + 1, k + 1, _, r5, by omega, Nat.le_refl _, rfl, rfl, by go_num, by go_num, HB5, HF5, HSe⟩
end Go.Proofs.YtjkiehmjffgnlaaGreatDoor

/-
  The walks of what a piece says, the program's and the reference's.
-/
import Derived.Test.YthfdhanhkanhhaaDoorUriE
import Derived.WalkSmall
namespace Go.Proofs.YthfdhanhkanhhaaDoor
open Go.RowKit

/-- what a piece says, handed back. -/
def Say (l : List UInt8) (w : World) (e : Ending) (w' : World) : Prop := Ret (.tuple #[.string ⟨(sayS l).1.toArray⟩, .bool (sayS l).2]) w e w'
theorem say_none {l : List UInt8} {w w' : World} (h : decS l = none) (hb : Below w.heap.size w w') : Say l w (.returned (.tuple #[.string ⟨#[]⟩, .bool false])) w' :=
  ⟨by unfold sayS; rw [h], hb⟩
theorem say_some {l s : List UInt8} {v : Bool} {w w' : World} (h : decS l = some s) (hv : goodBytes s = v) (hb : Below w.heap.size w w') : Say l w (.returned (.tuple #[.string ⟨s.toArray⟩, .bool v])) w' :=
  ⟨by unfold sayS; rw [h, ← hv], hb⟩

theorem or16 (x y : Int) (h0 : 0 ≤ x) (h1 : x ≤ 15) (h2 : 0 ≤ y) (h3 : y ≤ 15) : bits BinOp.or IntKind.i64 (x * 16) y % 256 = 16 * x + y := by
  have key : ∀ a b : Fin 16, bits BinOp.or IntKind.i64 ((a.val : Int) * 16) (b.val : Int) % 256 = 16 * (a.val : Int) + (b.val : Int) := by decide +kernel
  have := key ⟨x.toNat, by omega⟩ ⟨y.toNat, by omega⟩
  simp only [Int.toNat_of_nonneg h0, Int.toNat_of_nonneg h2] at this
  exact this
set_option maxHeartbeats 1000000 in
set_option maxRecDepth 100000 in
set_option linter.unusedSimpArgs false in
theorem decode_any (l : List UInt8) (w : World) (hs : l.length ≤ 1048576) (hE : Env w) :
    Calls Tryd.prog 29 #[.string ⟨l.toArray⟩] w (Say l w) := by
  obtain ⟨D, hD⟩ : ∃ D, decS l = D := ⟨_, rfl⟩
  have HD := Lib.hid hD
  clear hD
  have hb0 : Below w.heap.size w (w.alloc (.cells #[.pointer none, .slice none 0 0] 59)) := (Below.refl _ _).alloc (Nat.le_refl _) _
  have hB0 := Bld.fresh w
  have hsz : l.length ≤ maxLen := by unfold maxLen; omega
  have HS := Lib.hid hsz
  clear hsz
  go_enter Tryd.func29, Tryd.ntmps29
  go_wp2
  go_loopw [5, 6] (fun i _ wr => ∃ k acc, k ≤ l.length ∧ acc.length ≤ k ∧ i = .int .i64 (k : Nat) ∧ Bld w.heap.size w.heap.size acc wr ∧ Below w.heap.size w wr ∧ Hid ((decS (l.drop k)).map (acc ++ ·) = D)) (fun i _ _ => l.length - (intOf i).toNat)
  case atStart => exact ⟨0, [], Nat.zero_le _, Nat.zero_le _, rfl, hB0, hb0, by rw [List.drop_zero, ← HD.out]; cases decS l <;> simp [Hid]⟩
  case round =>
    obtain ⟨k, acc, hk, hak, rfl, hBl, hbw, H⟩ := hrel
    clear hB0 hb0
    have hEr := hE.below hbw
    have HB := Lib.hid hBl
    clear hBl
    rcases hd : l.drop k with _ | ⟨x, r⟩
    · have hk2 : k = l.length := by have := drop_nil hd; omega
      rw [hd] at H
      have hacc : acc.length ≤ maxLen := by unfold maxLen; omega
      have HL := Lib.hid hacc
      have hDe : decS l = some acc := by rw [HD.out, ← H.out]; simp [decS]
      have HDe := Lib.hid hDe
      subst hk2
      have Hv := Lib.hid (show goodBytes acc = (Lib.validD acc && !Lib.containsAny acc [47, 0]) by simp [goodBytes, any_two])
      clear hd hacc hDe
      have hcl : acc.length < 4294967281 := by omega
      have HC := Lib.hid hcl
      clear hcl
      have Hv' := Hv.out
      generalize hvv : Lib.validD acc = v at Hv'
      have HV := Lib.hid hvv
      have Hv := Lib.hid Hv'
      clear hvv Hv'
      cases v
      all_goals
        go_wp2_with (first
          | (go_at_call 37; refine (builderString_any _ _ _ _ HB.out).mono ?_; rintro e w1 ⟨rfl, hb1⟩; have hbt := Lib.hid (hbw.trans hb1))
          | (go_at_call 54; refine (validString_any _ _ HL.out (hE.below hbt.out)).mono ?_; rw [HV.out]; rintro e w2 ⟨rfl, hb2⟩)
          | (go_at_call 55; refine (containsAny_any _ _ _ asc2 (by decide) (by decide) HC.out).mono ?_; rintro e w3 ⟨rfl, hb3⟩))
        go_ret2
      · exact say_some HDe.out Hv.out (hbt.out.trans (hb2.mono hbt.out.size))
      · exact say_some HDe.out Hv.out ((hbt.out.trans (hb2.mono hbt.out.size)).trans (hb3.mono (hbt.out.trans (hb2.mono hbt.out.size)).size))
    · obtain ⟨hlt, hb, hr⟩ := drop_cons hd
      have hx := x.toNat_lt
      have hbd : acc.length + 1 ≤ 140737488355328 := by omega
      have HBD := Lib.hid hbd
      clear hbd
      by_cases hp : x = 37
      · subst hp
        rcases r with _ | ⟨a, _ | ⟨b, r⟩⟩
        · have hge : l.length ≤ k + 1 := drop_nil hr
          rw [hd, decS_end] at H
          have HN := Lib.hid (show decS l = none by rw [HD.out, ← H.out]; rfl)
          clear hd hr
          go_wp2
          go_ret2
          exact say_none HN.out hbw
        · obtain ⟨hlt1, ha, hr1⟩ := drop_cons hr
          have hge : l.length ≤ k + 1 + 1 := drop_nil hr1
          rw [hd, decS_end1] at H
          have HN := Lib.hid (show decS l = none by rw [HD.out, ← H.out]; rfl)
          clear hd hr hr1
          go_wp2
          go_ret2
          exact say_none HN.out hbw
        · obtain ⟨hlt1, ha, hr1⟩ := drop_cons hr
          obtain ⟨hlt2, hb', hr2⟩ := drop_cons hr1
          have hax := a.toNat_lt
          have hbx := b.toNat_lt
          rw [hd, decS_pct] at H
          have Hr := Lib.hid hr2
          clear hr hr1 hr2 hd
          by_cases hda : digV a.toNat < 0
          · have HN := Lib.hid (show decS l = none by rw [HD.out, ← H.out, if_pos (.inl hda)]; rfl)
            go_wp2_with (go_at_call 53; refine (digit_any _ _ (by omega) (by omega)).mono ?_; rintro e w' ⟨rfl, rfl⟩)
            go_ret2
            exact say_none HN.out hbw
          · by_cases hdb : digV b.toNat < 0
            · have HN := Lib.hid (show decS l = none by rw [HD.out, ← H.out, if_pos (.inr hdb)]; rfl)
              go_wp2_with (go_at_call 53; refine (digit_any _ _ (by omega) (by omega)).mono ?_; rintro e w' ⟨rfl, rfl⟩)
              go_ret2
              exact say_none HN.out hbw
            · have bda := dig_bd a.toNat
              have bdb := dig_bd b.toNat
              have hor := or16 (digV a.toNat) (digV b.toNat) (by omega) (by omega) (by omega) (by omega)
              rw [← hexByte_toNat a b (by omega) (by omega)] at hor
              have HI := Lib.hid (show (decS (l.drop (k + 3))).map ((acc ++ [hexByte a b]) ++ ·) = D by
                have hr3 := Hr.out
                rw [← H.out, if_neg (by omega), ← hr3]
                cases decS (l.drop (k + 3)) <;> simp)
              go_wp2_with (go_at_call 53; refine (digit_any _ _ (by omega) (by omega)).mono ?_; rintro e w' ⟨rfl, rfl⟩)
              have w1 : IntKind.i64.wrap ((k : Int) + 1) = (k : Int) + 1 := IntWalk.i64_in _ (by omega)
              have w2 : IntKind.i64.wrap ((k : Int) + 2) = (k : Int) + 2 := IntWalk.i64_in _ (by omega)
              have p1 : (0 : Int) ≤ (k : Int) + 1 := by omega
              have p2 : (0 : Int) ≤ (k : Int) + 2 := by omega
              have q1 : ((k : Int) + 1).toNat = k + 1 := by omega
              have q2 : ((k : Int) + 2).toNat = k + 2 := by omega
              go_quiet ((go_at_call 53; exact quiet0 (digit_any _ _ (by omega) (by omega))))
              clear w1 w2 p1 p2 q1 q2
              have hB2 : Bld w.heap.size w.heap.size acc (wr.drewN nq) := HB.out
              have HB2 := Lib.hid hB2
              clear hB2
              go_wp2_with (go_at_call 34; refine (writeByteU_any _ _ _ _ _ HB2.out HBD.out).mono ?_; rintro e w1 ⟨rfl, hB3, hb3⟩)
              go_roundw
              case rel => exact ⟨k + 3, acc ++ [hexByte a b], by omega, by simp; omega, by go_num, hB3, (below_draws hbw nq).trans hb3, HI.out⟩
              case measure => simp [intOf]; omega
      · rw [hd, decS_cons x r hp] at H
        have HI := Lib.hid (show (decS (l.drop (k + 1))).map ((acc ++ [x]) ++ ·) = D by
          rw [← H.out, ← hr]
          cases decS (l.drop (k + 1)) <;> simp)
        have hne : ((x.toNat : Int) == 37) = false := by
          rw [beq_eq_false_iff_ne]; intro h; exact hp (UInt8.toNat_inj.1 (by show x.toNat = 37; omega))
        clear hd hr
        go_wp2_with (go_at_call 34; refine (writeByteU_any _ _ _ _ _ HB.out HBD.out).mono ?_; rintro e w1 ⟨rfl, hB3, hb3⟩)
        go_roundw
        case rel => exact ⟨k + 1, acc ++ [x], by omega, by simp; omega, by go_num, hB3, hbw.trans hb3, HI.out⟩
        case measure => simp [intOf]; omega
end Go.Proofs.YthfdhanhkanhhaaDoor

/-
  The walks of the reference's says and pieces. Condition: the text is at most a million bytes.
-/
import Derived.Test.YthfdhanhkanhhaaDoorUriF
import Derived.Test.YthfdhanhkanhhaaDoorElem
import Derived.Deep.DeepMust
namespace Go.Proofs.YthfdhanhkanhhaaDoor
open Go.RowKit

set_option maxHeartbeats 1000000 in
set_option maxRecDepth 100000 in
set_option linter.unusedSimpArgs false in
theorem says_any (l : List UInt8) (w : World) (hs : l.length ≤ 1048576) :
    Calls Tryd.prog 32 #[.string ⟨l.toArray⟩] w (Say l w) := by
  obtain ⟨D, hD⟩ : ∃ D, decS l = D := ⟨_, rfl⟩
  have HD := Lib.hid hD
  clear hD
  have hsz : l.length ≤ maxLen := by unfold maxLen; omega
  have HS := Lib.hid hsz
  clear hsz
  go_enter Tryd.func32, Tryd.ntmps32
  go_wp2
  go_loopw [4, 5, 6, 7] (fun v i _ _ wr => ∃ k acc, k ≤ l.length ∧ acc.length ≤ k ∧ i = .int .i64 (k : Nat) ∧ Own 5 w.heap.size (vbytes acc) v wr ∧ Below w.heap.size w wr ∧ Hid ((decS (l.drop k)).map (acc ++ ·) = D)) (fun _ i _ _ _ => l.length - (intOf i).toNat)
  case atStart => exact ⟨0, [], Nat.zero_le _, Nat.zero_le _, rfl, Own.nil _ _ _, Below.refl _ _, by rw [List.drop_zero, ← HD.out]; cases decS l <;> simp [Hid]⟩
  case round =>
    obtain ⟨k, acc, hk, hak, rfl, hOw, hbw, H⟩ := hrel
    have HO := Lib.hid hOw
    clear hOw
    have hWB : w.heap.size ≤ wr.heap.size := hbw.size
    rcases hd : l.drop k with _ | ⟨x, r⟩
    · have hk2 : k = l.length := by have := drop_nil hd; omega
      rw [hd] at H
      have hacc : acc.length ≤ maxLen := by unfold maxLen; omega
      have HL := Lib.hid hacc
      have hDe : decS l = some acc := by rw [HD.out, ← H.out]; simp [decS]
      have HDe := Lib.hid hDe
      subst hk2
      have Hv := Lib.hid (show goodBytes acc = (!hasB acc 0 && (!hasB acc 47 && Lib.validD acc)) by
        unfold goodBytes
        cases hasB acc 0 <;> cases hasB acc 47 <;> cases Lib.validD acc <;> rfl)
      clear hd hacc hDe
      have hcv := conv_bytes wr _ acc HO.out.rd
      have Hv' := Hv.out
      generalize h0 : hasB acc 0 = b0 at Hv'
      generalize h47 : hasB acc 47 = b47 at Hv'
      generalize hvv : Lib.validD acc = v at Hv'
      have HV := Lib.hid hvv
      have Hv := Lib.hid Hv'
      clear hvv Hv'
      cases b0 <;> cases b47 <;> cases v
      all_goals
        go_wp2_with (first
          | (go_at_call 56; refine (has_any _ _ _ HL.out (by omega) (by omega)).mono ?_; rintro e w' ⟨rfl, rfl⟩)
          | (go_at_call 58; refine (utf8_any _ _ HL.out).mono ?_; rw [HV.out]; rintro e w' ⟨rfl, rfl⟩))
        go_ret2
        exact say_some HDe.out Hv.out hbw
    · obtain ⟨hlt, hb, hr⟩ := drop_cons hd
      have hx := x.toNat_lt
      have hbd : ((vbytes acc).length + 1) * 1 ≤ 140737488355328 := by rw [vbytes_len]; omega
      have HBD := Lib.hid hbd
      clear hbd
      by_cases hp : x = 37
      · subst hp
        rcases r with _ | ⟨a, _ | ⟨b, r⟩⟩
        · have hge : l.length ≤ k + 1 := drop_nil hr
          rw [hd, decS_end] at H
          have HN := Lib.hid (show decS l = none by rw [HD.out, ← H.out]; rfl)
          clear hd hr
          go_wp2
          go_ret2
          exact say_none HN.out hbw
        · obtain ⟨hlt1, ha, hr1⟩ := drop_cons hr
          have hge : l.length ≤ k + 1 + 1 := drop_nil hr1
          rw [hd, decS_end1] at H
          have HN := Lib.hid (show decS l = none by rw [HD.out, ← H.out]; rfl)
          clear hd hr hr1
          go_wp2
          go_ret2
          exact say_none HN.out hbw
        · obtain ⟨hlt1, ha, hr1⟩ := drop_cons hr
          obtain ⟨hlt2, hb', hr2⟩ := drop_cons hr1
          have hax := a.toNat_lt
          have hbx := b.toNat_lt
          rw [hd, decS_pct] at H
          have Hr := Lib.hid hr2
          clear hr hr1 hr2 hd
          by_cases hda : digV a.toNat < 0
          · have HN := Lib.hid (show decS l = none by rw [HD.out, ← H.out, if_pos (.inl hda)]; rfl)
            go_wp2_with (go_at_call 57; refine (hex_any _ _ (by omega) (by omega)).mono ?_; rintro e w' ⟨rfl, rfl⟩)
            go_ret2
            exact say_none HN.out hbw
          · by_cases hdb : digV b.toNat < 0
            · have HN := Lib.hid (show decS l = none by rw [HD.out, ← H.out, if_pos (.inr hdb)]; rfl)
              go_wp2_with (go_at_call 57; refine (hex_any _ _ (by omega) (by omega)).mono ?_; rintro e w' ⟨rfl, rfl⟩)
              go_ret2
              exact say_none HN.out hbw
            · have bda := dig_bd a.toNat
              have bdb := dig_bd b.toNat
              have hor : digV a.toNat * 16 + digV b.toNat = ((hexByte a b).toNat : Int) := by rw [hexByte_toNat a b (by omega) (by omega)]; omega
              have HI := Lib.hid (show (decS (l.drop (k + 3))).map ((acc ++ [hexByte a b]) ++ ·) = D by
                have hr3 := Hr.out
                rw [← H.out, if_neg (by omega), ← hr3]
                cases decS (l.drop (k + 3)) <;> simp)
              go_wp2_with (first
                | (go_at_call 57; refine (hex_any _ _ (by omega) (by omega)).mono ?_; rintro e w' ⟨rfl, rfl⟩)
                | (at_builtin; go_must (refine wpList_appLit elemB rfl (.tmp 46) (.tmp 52) rfl w.heap.size (vbytes acc) #[.int .u8 (hexByte a b).toNat] u4 rfl HO.out 1 rfl rfl (one1 _ _) HBD.out hWB ?_); intro v' w' hown' hb' hg'))
              go_roundw
              case rel => exact ⟨k + 3, acc ++ [hexByte a b], by omega, by simp; omega, by go_num, by rw [vbytes_app]; exact hown', hbw.trans hb', HI.out⟩
              case measure => simp [intOf]; omega
      · rw [hd, decS_cons x r hp] at H
        have HI := Lib.hid (show (decS (l.drop (k + 1))).map ((acc ++ [x]) ++ ·) = D by
          rw [← H.out, ← hr]
          cases decS (l.drop (k + 1)) <;> simp)
        have hne : ((x.toNat : Int) != 37) = true := by
          rw [bne_iff_ne]; intro h; exact hp (UInt8.toNat_inj.1 (by show x.toNat = 37; omega))
        clear hd hr
        go_wp2_with (at_builtin; refine wpList_appLit elemB rfl (.tmp 19) (.tmp 23) rfl w.heap.size (vbytes acc) #[.int .u8 x.toNat] u4 rfl HO.out 1 rfl rfl (one1 _ _) HBD.out hWB ?_; intro v' w' hown' hb' hg')
        go_roundw
        case rel => exact ⟨k + 1, acc ++ [x], by omega, by simp; omega, by go_num, by rw [vbytes_app]; exact hown', hbw.trans hb', HI.out⟩
        case measure => simp [intOf]; omega
end Go.Proofs.YthfdhanhkanhhaaDoor

/-
  Parts of the walks and plain laws of layer 10, joined: XmlUtf XmlLt XmlLe XmlNm. Conditions: as each theorem states them.
-/
import Derived.Test.YtcamdnfhnianbaaGreatDoorBase
import Derived.Test.YtcamdnfhnianbaaGreatDoorUtf8
import Derived.Deep.LoopGhost
import Derived.Deep.QuietTactic
import Derived.BigQuiet
import Derived.Lib.MapLaws
import Derived.Test.YtcamdnfhnianbaaGreatDoorXmlZ1
import Derived.IntWalk
import Derived.Deep.DeepCutAuto
import Derived.Test.YtcamdnfhnianbaaGreatDoorXmlZ4
/-! XmlUtf -/
namespace Go.Proofs.YtcamdnfhnianbaaGreatDoor
set_option linter.unusedVariables false
set_option linter.unusedSimpArgs false
open Go.RowKit

/-- what rune1 hands back. -/
def Rune1 (l : List UInt8) (w : World) (e : Ending) (w' : World) : Prop := ∃ n : Int, e = .returned (.tuple #[.int .i64 n, .bool (okL l)]) ∧ (okL l = true → n = ((Lib.decodeL l).2 : Int)) ∧ w = w'
theorem r1_no {l : List UInt8} {w : World} (n : Int) (h : okL l = false) : Rune1 l w (.returned (.tuple #[.int .i64 n, .bool false])) w := ⟨n, by rw [h], fun e => by simp [h] at e, rfl⟩
theorem r1_yes {l : List UInt8} {w : World} (n : Int) (h : okL l = true) (h2 : ((Lib.decodeL l).2 : Int) = n) : Rune1 l w (.returned (.tuple #[.int .i64 n, .bool true])) w := ⟨n, by rw [h], fun _ => h2.symm, rfl⟩
theorem r1_b {l : List UInt8} {w : World} (n : Int) (b : Bool) (h : okL l = b) (h2 : okL l = true → ((Lib.decodeL l).2 : Int) = n) : Rune1 l w (.returned (.tuple #[.int .i64 n, .bool b])) w := ⟨n, by rw [h], fun h' => (h2 h').symm, rfl⟩

/-- the value behind k rounds. -/
def accI (l : List UInt8) (v : Int) : Nat → Int
  | 0 => v
  | k + 1 => accI l v k * 64 + byteI l (k + 1) - 128
theorem accI_bd {l : List UInt8} {v : Int} (h0 : 0 ≤ v) (h1 : v ≤ 31) : ∀ k, k ≤ 3 → (∀ j, j < k → contI (byteI l (j + 1))) → 0 ≤ accI l v k ∧ accI l v k ≤ 8388607 ∧ (k ≤ 2 → accI l v k ≤ 131071) := by
  intro k hk hc
  match k, hk with
  | 0, _ => simp only [accI]; omega
  | 1, _ => have a := hc 0 (by omega); unfold contI at a; simp only [accI]; omega
  | 2, _ => have a := hc 0 (by omega); have b := hc 1 (by omega); unfold contI at a b; simp only [accI] at *; omega
  | 3, _ => have a := hc 0 (by omega); have b := hc 1 (by omega); have c := hc 2 (by omega); unfold contI at a b c; simp only [accI] at *; omega

theorem okcase {l : List UInt8} {n : Nat} {sub : Int} (hn : n = 2 ∧ sub = 192 ∧ 192 ≤ byteI l 0 ∧ byteI l 0 < 224 ∨ n = 3 ∧ sub = 224 ∧ 224 ≤ byteI l 0 ∧ byteI l 0 < 240 ∨ n = 4 ∧ sub = 240 ∧ 240 ≤ byteI l 0 ∧ byteI l 0 < 248) :
    (l.length < n → okL l = false) ∧ (∀ k, k + 1 < n → ¬ contI (byteI l (k + 1)) → okL l = false) ∧
    (n ≤ l.length → (∀ j, j + 1 < n → contI (byteI l (j + 1))) → (okL l = true ↔ (if n = 2 then 128 else if n = 3 then 2048 else 65536) ≤ accI l (byteI l 0 - sub) (n - 1) ∧ accI l (byteI l 0 - sub) (n - 1) ≤ 1114111 ∧ (accI l (byteI l 0 - sub) (n - 1) < 55296 ∨ 57343 < accI l (byteI l 0 - sub) (n - 1)))) ∧
    (okL l = true → (Lib.decodeL l).2 = n) := by
  have b1 := byteI_lt l 1
  have b2 := byteI_lt l 2
  have b3 := byteI_lt l 3
  rcases hn with ⟨rfl, rfl, h0, h1⟩ | ⟨rfl, rfl, h0, h1⟩ | ⟨rfl, rfl, h0, h1⟩
  · obtain ⟨h, hw⟩ := ok2 h0 h1
    refine ⟨fun hl => ?_, fun k hk hc => ?_, fun hl hc => ?_, hw⟩
    · rw [Bool.eq_false_iff, ne_eq, h]; omega
    · obtain rfl : k = 0 := by omega
      rw [Bool.eq_false_iff, ne_eq, h]; intro ⟨_, h', _⟩; exact hc h'
    · have c1 := hc 0 (by omega)
      rw [h]; unfold contI at *; simp only [accI, if_pos, Nat.zero_add, Nat.reduceSub] at *; omega
  · obtain ⟨h, hw⟩ := ok3 h0 h1
    refine ⟨fun hl => ?_, fun k hk hc => ?_, fun hl hc => ?_, hw⟩
    · rw [Bool.eq_false_iff, ne_eq, h]; omega
    · rw [Bool.eq_false_iff, ne_eq, h]; intro ⟨_, h', h'', _⟩
      rcases (by omega : k = 0 ∨ k = 1) with rfl | rfl
      · exact hc h'
      · exact hc h''
    · have c1 := hc 0 (by omega)
      have c2 := hc 1 (by omega)
      rw [h, if_neg (by omega), if_pos rfl]; unfold contI at *; simp only [accI, Nat.zero_add, Nat.reduceAdd, Nat.reduceSub] at *; omega
  · obtain ⟨h, hw⟩ := ok4 h0 h1
    refine ⟨fun hl => ?_, fun k hk hc => ?_, fun hl hc => ?_, hw⟩
    · rw [Bool.eq_false_iff, ne_eq, h]; omega
    · rw [Bool.eq_false_iff, ne_eq, h]; intro ⟨_, h', h'', h3, _⟩
      rcases (by omega : k = 0 ∨ k = 1 ∨ k = 2) with rfl | rfl | rfl
      · exact hc h'
      · exact hc h''
      · exact hc h3
    · have c1 := hc 0 (by omega)
      have c2 := hc 1 (by omega)
      have c3 := hc 2 (by omega)
      rw [h, if_neg (by omega), if_neg (by omega)]; unfold contI at *; simp only [accI, Nat.zero_add, Nat.reduceAdd, Nat.reduceSub] at *; omega

set_option maxHeartbeats 400000 in
set_option maxRecDepth 100000 in
set_option linter.unusedSimpArgs false in
theorem rune1_low (l : List UInt8) (w : World) (h0 : 0 < l.length) (h : byteI l 0 < 128) :
    Calls Tryz.prog 96 #[.string ⟨l.toArray⟩] w (Rune1 l w) := by
  have g0 := byteI_get h0
  have bd := byteI_lt l 0
  obtain ⟨ok, wd⟩ := ok1 h
  go_enter Tryz.func96, Tryz.ntmps96
  go_wp2
  go_ret2
  exact r1_yes 1 ok (by rw [wd]; rfl)
set_option maxHeartbeats 400000 in
set_option maxRecDepth 100000 in
set_option linter.unusedSimpArgs false in
theorem rune1_bad (l : List UInt8) (w : World) (h0 : 0 < l.length) (h : 128 ≤ byteI l 0 ∧ byteI l 0 < 192 ∨ 248 ≤ byteI l 0) :
    Calls Tryz.prog 96 #[.string ⟨l.toArray⟩] w (Rune1 l w) := by
  have g0 := byteI_get h0
  have bd := byteI_lt l 0
  have ok := okbad h
  rcases h with ⟨h, h'⟩ | h
  all_goals
    go_enter Tryz.func96, Tryz.ntmps96
    go_wp2
    go_ret2
    exact r1_no 0 ok
set_option maxHeartbeats 800000 in
set_option maxRecDepth 100000 in
set_option linter.unusedSimpArgs false in
theorem rune1_2 (l : List UInt8) (w : World) (h0 : 0 < l.length) (hs : l.length ≤ maxLen) (h : 192 ≤ byteI l 0) (h' : byteI l 0 < 224) :
    Calls Tryz.prog 96 #[.string ⟨l.toArray⟩] w (Rune1 l w) := by
  unfold maxLen at hs
  have g0 := byteI_get h0
  obtain ⟨c1, c2, c3, c4⟩ := okcase (l := l) (n := 2) (sub := 192) (by omega)
  have C1 := Lib.hid c1
  have C2 := Lib.hid c2
  have c3' : 2 ≤ l.length → (∀ j, j + 1 < 2 → contI (byteI l (j + 1))) → (okL l = true ↔ 128 ≤ accI l (byteI l 0 - 192) (2 - 1) ∧ accI l (byteI l 0 - 192) (2 - 1) ≤ 1114111 ∧ (accI l (byteI l 0 - 192) (2 - 1) < 55296 ∨ 57343 < accI l (byteI l 0 - 192) (2 - 1))) := c3
  have C3 := Lib.hid c3'
  have C4 := Lib.hid c4
  clear c1 c2 c3 c3' c4
  by_cases hl : l.length < 2
  · go_enter Tryz.func96, Tryz.ntmps96
    go_wp2
    go_ret2
    exact r1_no 0 (C1.out hl)
  · go_enter Tryz.func96, Tryz.ntmps96
    go_wp2
    go_loop [7, 8, 9] (fun v i d => ∃ k : Nat, k + 1 ≤ 2 ∧ i = .int .i64 (↑(k + 1) : Int) ∧ v = .int .i64 (accI l (byteI l 0 - 192) k) ∧ Hid (∀ j, j < k → contI (byteI l (j + 1)))) (fun _ i _ => 2 - (intOf i).toNat)
    case atStart => exact ⟨0, by omega, rfl, rfl, fun j h => by omega⟩
    case round =>
      obtain ⟨k, hk, rfl, rfl, H⟩ := hrel
      clear g0
      have bd := accI_bd (l := l) (v := byteI l 0 - 192) (by omega) (by omega) k (by omega) H.out
      obtain ⟨q1, q2, q3⟩ := bd
      by_cases hlt : k + 1 < 2
      · have q4 := q3 (by omega)
        clear q3
        have g := byteI_get (l := l) (j := k + 1) (by omega)
        have gb := byteI_lt l (k + 1)
        by_cases hc : contI (byteI l (k + 1))
        · have Hc := Lib.hid hc
          unfold contI at hc
          obtain ⟨hc1, hc2⟩ := hc
          go_wp2
          go_round
          case rel =>
            refine ⟨k + 1, by omega, by go_num, rfl, fun j hj => ?_⟩
            by_cases e : j = k
            · subst e; exact Hc.out
            · exact H.out j (by omega)
          case measure => simp [intOf]; omega
        · have Hc := Lib.hid hc
          unfold contI at hc
          rcases (by omega : byteI l (k + 1) < 128 ∨ 191 < byteI l (k + 1)) with hc' | hc'
          all_goals
            clear hc
            go_wp2
            go_ret2
            exact r1_no 0 (C2.out k hlt Hc.out)
      · obtain rfl : k = 2 - 1 := by omega
        have h3 := C3.out (by omega) (fun j hj => H.out j (by omega))
        have C3 := Lib.hid h3
        clear h3 q3
        go_wp2
        all_goals go_ret2
        all_goals (refine r1_b 2 _ ?_ (fun h => by rw [C4.out h]; rfl); rw [Bool.eq_iff_iff, C3.out]; simp; omega)
set_option maxHeartbeats 800000 in
set_option maxRecDepth 100000 in
set_option linter.unusedSimpArgs false in
theorem rune1_3 (l : List UInt8) (w : World) (h0 : 0 < l.length) (hs : l.length ≤ maxLen) (h : 224 ≤ byteI l 0) (h' : byteI l 0 < 240) :
    Calls Tryz.prog 96 #[.string ⟨l.toArray⟩] w (Rune1 l w) := by
  unfold maxLen at hs
  have g0 := byteI_get h0
  obtain ⟨c1, c2, c3, c4⟩ := okcase (l := l) (n := 3) (sub := 224) (by omega)
  have C1 := Lib.hid c1
  have C2 := Lib.hid c2
  have c3' : 3 ≤ l.length → (∀ j, j + 1 < 3 → contI (byteI l (j + 1))) → (okL l = true ↔ 2048 ≤ accI l (byteI l 0 - 224) (3 - 1) ∧ accI l (byteI l 0 - 224) (3 - 1) ≤ 1114111 ∧ (accI l (byteI l 0 - 224) (3 - 1) < 55296 ∨ 57343 < accI l (byteI l 0 - 224) (3 - 1))) := c3
  have C3 := Lib.hid c3'
  have C4 := Lib.hid c4
  clear c1 c2 c3 c3' c4
  by_cases hl : l.length < 3
  · go_enter Tryz.func96, Tryz.ntmps96
    go_wp2
    go_ret2
    exact r1_no 0 (C1.out hl)
  · go_enter Tryz.func96, Tryz.ntmps96
    go_wp2
    go_loop [7, 8, 9] (fun v i d => ∃ k : Nat, k + 1 ≤ 3 ∧ i = .int .i64 (↑(k + 1) : Int) ∧ v = .int .i64 (accI l (byteI l 0 - 224) k) ∧ Hid (∀ j, j < k → contI (byteI l (j + 1)))) (fun _ i _ => 3 - (intOf i).toNat)
    case atStart => exact ⟨0, by omega, rfl, rfl, fun j h => by omega⟩
    case round =>
      obtain ⟨k, hk, rfl, rfl, H⟩ := hrel
      clear g0
      have bd := accI_bd (l := l) (v := byteI l 0 - 224) (by omega) (by omega) k (by omega) H.out
      obtain ⟨q1, q2, q3⟩ := bd
      by_cases hlt : k + 1 < 3
      · have q4 := q3 (by omega)
        clear q3
        have g := byteI_get (l := l) (j := k + 1) (by omega)
        have gb := byteI_lt l (k + 1)
        by_cases hc : contI (byteI l (k + 1))
        · have Hc := Lib.hid hc
          unfold contI at hc
          obtain ⟨hc1, hc2⟩ := hc
          go_wp2
          go_round
          case rel =>
            refine ⟨k + 1, by omega, by go_num, rfl, fun j hj => ?_⟩
            by_cases e : j = k
            · subst e; exact Hc.out
            · exact H.out j (by omega)
          case measure => simp [intOf]; omega
        · have Hc := Lib.hid hc
          unfold contI at hc
          rcases (by omega : byteI l (k + 1) < 128 ∨ 191 < byteI l (k + 1)) with hc' | hc'
          all_goals
            clear hc
            go_wp2
            go_ret2
            exact r1_no 0 (C2.out k hlt Hc.out)
      · obtain rfl : k = 3 - 1 := by omega
        have h3 := C3.out (by omega) (fun j hj => H.out j (by omega))
        have C3 := Lib.hid h3
        clear h3 q3
        go_wp2
        all_goals go_ret2
        all_goals (refine r1_b 3 _ ?_ (fun h => by rw [C4.out h]; rfl); rw [Bool.eq_iff_iff, C3.out]; simp; omega)
set_option maxHeartbeats 800000 in
set_option maxRecDepth 100000 in
set_option linter.unusedSimpArgs false in
theorem rune1_4 (l : List UInt8) (w : World) (h0 : 0 < l.length) (hs : l.length ≤ maxLen) (h : 240 ≤ byteI l 0) (h' : byteI l 0 < 248) :
    Calls Tryz.prog 96 #[.string ⟨l.toArray⟩] w (Rune1 l w) := by
  unfold maxLen at hs
  have g0 := byteI_get h0
  obtain ⟨c1, c2, c3, c4⟩ := okcase (l := l) (n := 4) (sub := 240) (by omega)
  have C1 := Lib.hid c1
  have C2 := Lib.hid c2
  have c3' : 4 ≤ l.length → (∀ j, j + 1 < 4 → contI (byteI l (j + 1))) → (okL l = true ↔ 65536 ≤ accI l (byteI l 0 - 240) (4 - 1) ∧ accI l (byteI l 0 - 240) (4 - 1) ≤ 1114111 ∧ (accI l (byteI l 0 - 240) (4 - 1) < 55296 ∨ 57343 < accI l (byteI l 0 - 240) (4 - 1))) := c3
  have C3 := Lib.hid c3'
  have C4 := Lib.hid c4
  clear c1 c2 c3 c3' c4
  by_cases hl : l.length < 4
  · go_enter Tryz.func96, Tryz.ntmps96
    go_wp2
    go_ret2
    exact r1_no 0 (C1.out hl)
  · go_enter Tryz.func96, Tryz.ntmps96
    go_wp2
    go_loop [7, 8, 9] (fun v i d => ∃ k : Nat, k + 1 ≤ 4 ∧ i = .int .i64 (↑(k + 1) : Int) ∧ v = .int .i64 (accI l (byteI l 0 - 240) k) ∧ Hid (∀ j, j < k → contI (byteI l (j + 1)))) (fun _ i _ => 4 - (intOf i).toNat)
    case atStart => exact ⟨0, by omega, rfl, rfl, fun j h => by omega⟩
    case round =>
      obtain ⟨k, hk, rfl, rfl, H⟩ := hrel
      clear g0
      have bd := accI_bd (l := l) (v := byteI l 0 - 240) (by omega) (by omega) k (by omega) H.out
      obtain ⟨q1, q2, q3⟩ := bd
      by_cases hlt : k + 1 < 4
      · have q4 := q3 (by omega)
        clear q3
        have g := byteI_get (l := l) (j := k + 1) (by omega)
        have gb := byteI_lt l (k + 1)
        by_cases hc : contI (byteI l (k + 1))
        · have Hc := Lib.hid hc
          unfold contI at hc
          obtain ⟨hc1, hc2⟩ := hc
          go_wp2
          go_round
          case rel =>
            refine ⟨k + 1, by omega, by go_num, rfl, fun j hj => ?_⟩
            by_cases e : j = k
            · subst e; exact Hc.out
            · exact H.out j (by omega)
          case measure => simp [intOf]; omega
        · have Hc := Lib.hid hc
          unfold contI at hc
          rcases (by omega : byteI l (k + 1) < 128 ∨ 191 < byteI l (k + 1)) with hc' | hc'
          all_goals
            clear hc
            go_wp2
            go_ret2
            exact r1_no 0 (C2.out k hlt Hc.out)
      · obtain rfl : k = 4 - 1 := by omega
        have h3 := C3.out (by omega) (fun j hj => H.out j (by omega))
        have C3 := Lib.hid h3
        clear h3 q3
        go_wp2
        all_goals go_ret2
        all_goals (refine r1_b 4 _ ?_ (fun h => by rw [C4.out h]; rfl); rw [Bool.eq_iff_iff, C3.out]; simp; omega)
theorem rune1_any (l : List UInt8) (w : World) (h0 : 0 < l.length) (hs : l.length ≤ maxLen) :
    Calls Tryz.prog 96 #[.string ⟨l.toArray⟩] w (Rune1 l w) := by
  have bd := byteI_lt l 0
  rcases (by omega : byteI l 0 < 128 ∨ (128 ≤ byteI l 0 ∧ byteI l 0 < 192 ∨ 248 ≤ byteI l 0) ∨ (192 ≤ byteI l 0 ∧ byteI l 0 < 224) ∨ (224 ≤ byteI l 0 ∧ byteI l 0 < 240) ∨ (240 ≤ byteI l 0 ∧ byteI l 0 < 248)) with h | h | h | h | h
  · exact rune1_low l w h0 h
  · exact rune1_bad l w h0 h
  · exact rune1_2 l w h0 hs h.1 h.2
  · exact rune1_3 l w h0 hs h.1 h.2
  · exact rune1_4 l w h0 hs h.1 h.2

open Go.RowKit
set_option maxHeartbeats 400000 in
set_option maxRecDepth 100000 in
set_option linter.unusedSimpArgs false in
theorem utf8_any (l : List UInt8) (w : World) (hs : l.length ≤ maxLen) :
    Calls Tryz.prog 68 #[.string ⟨l.toArray⟩] w (Same0 (.bool (Lib.validD l)) w) := by
  have hs' := hs
  unfold maxLen at hs
  obtain ⟨ANS, hA⟩ : ∃ A, Lib.validD l = A := ⟨_, rfl⟩
  rw [hA]
  go_enter Tryz.func68, Tryz.ntmps68
  go_wp2
  go_loop [3, 4, 5] (fun i _ _ => ∃ k : Nat, k ≤ l.length ∧ i = .int .i64 k ∧ Hid (Lib.validD (l.drop k) = ANS)) (fun i _ _ => l.length - (intOf i).toNat)
  case atStart => exact ⟨0, Nat.zero_le _, rfl, hA⟩
  case round =>
    obtain ⟨k, hk, rfl, H⟩ := hrel
    clear hA
    by_cases hlt : k < l.length
    · have hne : l.drop k ≠ [] := by intro h; have := drop_nil h; omega
      have Hv := Lib.hid (valid_ok hne)
      have hwd := Lib.decodeL_le (l.drop k) hne
      have hwd1 := Lib.decodeL_width (l.drop k)
      rw [List.length_drop] at hwd
      have Hd := Lib.hid (show (l.drop k).length ≤ maxLen by rw [List.length_drop]; omega)
      have Hp := Lib.hid (show 0 < (l.drop k).length by rw [List.length_drop]; omega)
      clear hs' hne
      go_wp2_with fail
      refine (rune1_any (l.drop k) _ Hp.out Hd.out).mono ?_
      rintro e w' ⟨n, rfl, hn, rfl⟩
      generalize hok : okL (l.drop k) = ok at hn Hv
      generalize hde : (Lib.decodeL (l.drop k)).2 = wd at hn Hv hwd hwd1
      clear hok hde
      cases ok with
      | false =>
        clear hn
        go_wp2
        go_ret
        exact ⟨retb (by rw [← H.out, Hv.out]; rfl), rfl⟩
      | true =>
        obtain rfl := hn rfl
        go_wp2
        go_round
        case rel => exact ⟨k + wd, by omega, by go_num, by rw [← H.out, Hv.out, List.drop_drop]; rfl⟩
        case measure => simp [intOf]; omega
    · obtain rfl : k = l.length := by omega
      rw [List.drop_length] at H
      go_wp2
      go_ret
      exact ⟨retb H.out, rfl⟩
end Go.Proofs.YtcamdnfhnianbaaGreatDoor
/-! XmlLt -/
namespace Go.Proofs.YtcamdnfhnianbaaGreatDoor
set_option linter.unusedVariables false
set_option linter.unusedSimpArgs false
open Go.RowKit

/-- a good letter at the front, in the reference's words. -/
theorem letV {l : List UInt8} (h : okL l = true) :
    (byteI l 0 < 128 ∧ ((Lib.decodeL l).1 : Int) = byteI l 0 ∧ (Lib.decodeL l).2 = 1) ∨
    (192 ≤ byteI l 0 ∧ byteI l 0 < 224 ∧ 1 < l.length ∧ contI (byteI l 1) ∧ ((Lib.decodeL l).1 : Int) = (byteI l 0 - 192) * 64 + byteI l 1 - 128 ∧ (Lib.decodeL l).2 = 2) ∨
    (224 ≤ byteI l 0 ∧ byteI l 0 < 240 ∧ 2 < l.length ∧ contI (byteI l 1) ∧ contI (byteI l 2) ∧ ((Lib.decodeL l).1 : Int) = ((byteI l 0 - 224) * 64 + byteI l 1 - 128) * 64 + byteI l 2 - 128 ∧ (Lib.decodeL l).2 = 3) ∨
    (240 ≤ byteI l 0 ∧ byteI l 0 < 248 ∧ 3 < l.length ∧ contI (byteI l 1) ∧ contI (byteI l 2) ∧ contI (byteI l 3) ∧ ((Lib.decodeL l).1 : Int) = (((byteI l 0 - 240) * 64 + byteI l 1 - 128) * 64 + byteI l 2 - 128) * 64 + byteI l 3 - 128 ∧ (Lib.decodeL l).2 = 4) := by
  have b0 := byteI_lt l 0
  have b1 := byteI_lt l 1
  have b2 := byteI_lt l 2
  have b3 := byteI_lt l 3
  by_cases c1 : byteI l 0 < 128
  · refine .inl ⟨c1, ?_, (ok1 c1).2⟩
    unfold byteI at *
    rw [Lib.decodeL_N]; unfold Lib.decodeN
    rw [if_pos (by omega)]
  by_cases c2 : byteI l 0 < 192 ∨ 248 ≤ byteI l 0
  · rw [okbad (by omega)] at h
    cases h
  by_cases c3 : byteI l 0 < 224
  · obtain ⟨k1, k2⟩ := ok2 (l := l) (by omega) c3
    obtain ⟨a1, a2, a3⟩ := k1.1 h
    refine .inr (.inl ⟨by omega, c3, a1, a2, ?_, k2 h⟩)
    unfold byteI contI at *
    rw [Lib.decodeL_N]; unfold Lib.decodeN
    rw [if_neg (by omega), if_pos (by omega), if_pos (by omega)]
    simp only
    omega
  by_cases c4 : byteI l 0 < 240
  · obtain ⟨k1, k2⟩ := ok3 (l := l) (by omega) c4
    obtain ⟨a1, a2, a3, a4, a5⟩ := k1.1 h
    refine .inr (.inr (.inl ⟨by omega, c4, a1, a2, a3, ?_, k2 h⟩))
    unfold byteI contI at *
    rw [Lib.decodeL_N]; unfold Lib.decodeN
    rw [if_neg (by omega), if_neg (by omega), if_pos (by omega), if_pos (by omega)]
    simp only
    omega
  · obtain ⟨k1, k2⟩ := ok4 (l := l) (by omega) (by omega)
    obtain ⟨a1, a2, a3, a4, a5, a6⟩ := k1.1 h
    refine .inr (.inr (.inr ⟨by omega, by omega, a1, a2, a3, a4, ?_, k2 h⟩))
    unfold byteI contI at *
    rw [Lib.decodeL_N]; unfold Lib.decodeN
    rw [if_neg (by omega), if_neg (by omega), if_neg (by omega), if_pos (by omega), if_pos (by omega)]
    simp only
    omega
set_option maxHeartbeats 4000000 in
set_option maxRecDepth 100000 in
set_option linter.unusedSimpArgs false in
theorem allowed_any (v : Nat) (w : World) : Calls Tryz.prog 70 #[.int .i64 (v : Int)] w (Same0 (.bool (letC v)) w) := by
  obtain ⟨ANS, hA⟩ : ∃ A, A = letC v := ⟨_, rfl⟩
  rw [← hA]
  have HA := Lib.hid hA
  clear hA
  go_enter Tryz.func70, Tryz.ntmps70
  go_wp2
  all_goals
    go_ret
    refine ⟨?_, rfl⟩
    rw [HA.out]
    refine congrArg (fun b => Ending.returned (.bool b)) ?_
    unfold letC
    first | (symm; apply decide_eq_true; omega) | (symm; apply decide_eq_false; omega) | (rw [Bool.eq_iff_iff]; simp only [decide_eq_true_eq, beq_iff_eq, Bool.and_eq_true, Bool.or_eq_true]; omega)
set_option maxHeartbeats 4000000 in
set_option maxRecDepth 100000 in
set_option linter.unusedSimpArgs false in
theorem letter_any (s : List UInt8) (i : Nat) (w : World) (hi : i < s.length) (hs : s.length ≤ 1000000000) (hok : okL (s.drop i) = true) :
    Calls Tryz.prog 69 #[.string ⟨s.toArray⟩, .int .i64 (i : Int)] w (fun e w' => e = .returned (.tuple #[.int .i64 ((Lib.decodeL (s.drop i)).1 : Int), .int .i64 ((Lib.decodeL (s.drop i)).2 : Int)]) ∧ Below w.heap.size w w') := by
  have hv := letV hok
  have hld : (s.drop i).length = s.length - i := List.length_drop
  have hb : ∀ j, i + j < s.length → byteI (s.drop i) j = byteI s (i + j) := fun j _ => by unfold byteI; rw [List.getD_eq_getElem?_getD, List.getD_eq_getElem?_getD, List.getElem?_drop]
  have q0 := byteI_lt (s.drop i) 0
  have q1 := byteI_lt (s.drop i) 1
  have q2 := byteI_lt (s.drop i) 2
  have q3 := byteI_lt (s.drop i) 3
  have g0 := byteI_get hi
  rw [show byteI s i = byteI (s.drop i) 0 from (hb 0 (by omega)).symm] at g0
  have k0 : (0 : Int) ≤ i := by omega
  have k1 : (i : Int) < s.length := by omega
  rw [hld] at hv
  have hb1 := hb 1
  have hb2 := hb 2
  have hb3 := hb 3
  clear hok hb
  generalize (Lib.decodeL (s.drop i)).1 = V at *
  generalize (Lib.decodeL (s.drop i)).2 = W at *
  generalize byteI (s.drop i) 0 = B0 at *
  generalize byteI (s.drop i) 1 = B1 at *
  generalize byteI (s.drop i) 2 = B2 at *
  generalize byteI (s.drop i) 3 = B3 at *
  clear hld
  unfold contI at hv
  rcases hv with ⟨h1, hV, rfl⟩ | ⟨h1, h2, h3, hc1, hV, rfl⟩ | ⟨h1, h2, h3, hc1, hc2, hV, rfl⟩ | ⟨h1, h2, h3, hc1, hc2, hc3, hV, rfl⟩
  · rw [hV]
    clear hV hb1 hb2 hb3
    go_enter Tryz.func69, Tryz.ntmps69
    go_wp2
    go_ret2
    exact ⟨rfl, Below.refl _ _⟩
  · rw [hV]
    have g1 := byteI_get (l := s) (j := i + 1) (by omega)
    rw [← hb1 (by omega)] at g1
    clear hV hb1 hb2 hb3
    have p1 : (i : Int) + 1 < s.length := by omega
    go_enter Tryz.func69, Tryz.ntmps69
    go_wp2
    go_ret2
    exact ⟨rfl, Below.refl _ _⟩
  · rw [hV]
    have g1 := byteI_get (l := s) (j := i + 1) (by omega)
    rw [← hb1 (by omega)] at g1
    have g2 := byteI_get (l := s) (j := i + 2) (by omega)
    rw [← hb2 (by omega)] at g2
    clear hV hb1 hb2 hb3
    have p1 : (i : Int) + 1 < s.length := by omega
    have n1 : (0 : Int) ≤ (i : Int) + 1 := by omega
    have z1 : ((i : Int) + 1).toNat = i + 1 := by omega
    have y1 : IntKind.i64.wrap ((i : Int) + 1) = (i : Int) + 1 := IntWalk.i64_in _ (by omega)
    have c1 : IntKind.i64.wrap B1 = B1 := IntWalk.i64_in _ (by omega)
    have p2 : (i : Int) + 2 < s.length := by omega
    have n2 : (0 : Int) ≤ (i : Int) + 2 := by omega
    have z2 : ((i : Int) + 2).toNat = i + 2 := by omega
    have y2 : IntKind.i64.wrap ((i : Int) + 2) = (i : Int) + 2 := IntWalk.i64_in _ (by omega)
    have c2 : IntKind.i64.wrap B2 = B2 := IntWalk.i64_in _ (by omega)
    have a0 : IntKind.i64.wrap (B0 - 224) = B0 - 224 := IntWalk.i64_in _ (by omega)
    have a1 : IntKind.i64.wrap ((B0 - 224) * 64) = (B0 - 224) * 64 := IntWalk.i64_in _ (by omega)
    have a2 : IntKind.i64.wrap ((B0 - 224) * 64 + B1) = (B0 - 224) * 64 + B1 := IntWalk.i64_in _ (by omega)
    have a3 : IntKind.i64.wrap ((B0 - 224) * 64 + B1 - 128) = (B0 - 224) * 64 + B1 - 128 := IntWalk.i64_in _ (by omega)
    have a4 : IntKind.i64.wrap (((B0 - 224) * 64 + B1 - 128) * 64) = ((B0 - 224) * 64 + B1 - 128) * 64 := IntWalk.i64_in _ (by omega)
    have a5 : IntKind.i64.wrap (((B0 - 224) * 64 + B1 - 128) * 64 + B2) = ((B0 - 224) * 64 + B1 - 128) * 64 + B2 := IntWalk.i64_in _ (by omega)
    have a6 : IntKind.i64.wrap (((B0 - 224) * 64 + B1 - 128) * 64 + B2 - 128) = ((B0 - 224) * 64 + B1 - 128) * 64 + B2 - 128 := IntWalk.i64_in _ (by omega)
    go_enter Tryz.func69, Tryz.ntmps69
    go_upto_region 7 with (fail)
    go_quiet (fail)
    go_wp2
    go_ret2
    exact ⟨rfl, below_draws (Below.refl _ _) _⟩
  · rw [hV]
    have g1 := byteI_get (l := s) (j := i + 1) (by omega)
    rw [← hb1 (by omega)] at g1
    have g2 := byteI_get (l := s) (j := i + 2) (by omega)
    rw [← hb2 (by omega)] at g2
    have g3 := byteI_get (l := s) (j := i + 3) (by omega)
    rw [← hb3 (by omega)] at g3
    clear hV hb1 hb2 hb3
    have p1 : (i : Int) + 1 < s.length := by omega
    have n1 : (0 : Int) ≤ (i : Int) + 1 := by omega
    have z1 : ((i : Int) + 1).toNat = i + 1 := by omega
    have y1 : IntKind.i64.wrap ((i : Int) + 1) = (i : Int) + 1 := IntWalk.i64_in _ (by omega)
    have c1 : IntKind.i64.wrap B1 = B1 := IntWalk.i64_in _ (by omega)
    have p2 : (i : Int) + 2 < s.length := by omega
    have n2 : (0 : Int) ≤ (i : Int) + 2 := by omega
    have z2 : ((i : Int) + 2).toNat = i + 2 := by omega
    have y2 : IntKind.i64.wrap ((i : Int) + 2) = (i : Int) + 2 := IntWalk.i64_in _ (by omega)
    have c2 : IntKind.i64.wrap B2 = B2 := IntWalk.i64_in _ (by omega)
    have p3 : (i : Int) + 3 < s.length := by omega
    have n3 : (0 : Int) ≤ (i : Int) + 3 := by omega
    have z3 : ((i : Int) + 3).toNat = i + 3 := by omega
    have y3 : IntKind.i64.wrap ((i : Int) + 3) = (i : Int) + 3 := IntWalk.i64_in _ (by omega)
    have c3 : IntKind.i64.wrap B3 = B3 := IntWalk.i64_in _ (by omega)
    have a0 : IntKind.i64.wrap (B0 - 240) = B0 - 240 := IntWalk.i64_in _ (by omega)
    have a1 : IntKind.i64.wrap ((B0 - 240) * 64) = (B0 - 240) * 64 := IntWalk.i64_in _ (by omega)
    have a2 : IntKind.i64.wrap ((B0 - 240) * 64 + B1) = (B0 - 240) * 64 + B1 := IntWalk.i64_in _ (by omega)
    have a3 : IntKind.i64.wrap ((B0 - 240) * 64 + B1 - 128) = (B0 - 240) * 64 + B1 - 128 := IntWalk.i64_in _ (by omega)
    have a4 : IntKind.i64.wrap (((B0 - 240) * 64 + B1 - 128) * 64) = ((B0 - 240) * 64 + B1 - 128) * 64 := IntWalk.i64_in _ (by omega)
    have a5 : IntKind.i64.wrap (((B0 - 240) * 64 + B1 - 128) * 64 + B2) = ((B0 - 240) * 64 + B1 - 128) * 64 + B2 := IntWalk.i64_in _ (by omega)
    have a6 : IntKind.i64.wrap (((B0 - 240) * 64 + B1 - 128) * 64 + B2 - 128) = ((B0 - 240) * 64 + B1 - 128) * 64 + B2 - 128 := IntWalk.i64_in _ (by omega)
    have a7 : IntKind.i64.wrap ((((B0 - 240) * 64 + B1 - 128) * 64 + B2 - 128) * 64) = (((B0 - 240) * 64 + B1 - 128) * 64 + B2 - 128) * 64 := IntWalk.i64_in _ (by omega)
    have a8 : IntKind.i64.wrap ((((B0 - 240) * 64 + B1 - 128) * 64 + B2 - 128) * 64 + B3) = (((B0 - 240) * 64 + B1 - 128) * 64 + B2 - 128) * 64 + B3 := IntWalk.i64_in _ (by omega)
    have a9 : IntKind.i64.wrap ((((B0 - 240) * 64 + B1 - 128) * 64 + B2 - 128) * 64 + B3 - 128) = (((B0 - 240) * 64 + B1 - 128) * 64 + B2 - 128) * 64 + B3 - 128 := IntWalk.i64_in _ (by omega)
    go_enter Tryz.func69, Tryz.ntmps69
    go_upto_region 8 with (fail)
    go_quiet (fail)
    go_wp2
    go_ret2
    exact ⟨rfl, below_draws (Below.refl _ _) _⟩
end Go.Proofs.YtcamdnfhnianbaaGreatDoor
/-! XmlLe -/
namespace Go.Proofs.YtcamdnfhnianbaaGreatDoor
set_option linter.unusedVariables false
set_option linter.unusedSimpArgs false
open Go.RowKit

set_option maxHeartbeats 4000000 in
set_option maxRecDepth 100000 in
set_option linter.unusedSimpArgs false in
theorem xrletters_any (s : List UInt8) (w : World) (hs : s.length ≤ 1000000000) : Calls Tryz.prog 39 #[.string ⟨s.toArray⟩] w (Ret (.bool (lettersX s)) w) := by
  obtain ⟨ANS, hA⟩ : ∃ A, A = lettersX s := ⟨_, rfl⟩
  rw [← hA]
  have HA := Lib.hid hA
  obtain ⟨E, hEE⟩ : ∃ E, E = Ret (.bool ANS) w := ⟨_, rfl⟩
  rw [← hEE]
  have HEE := Lib.hid hEE
  have HU := Lib.hid (utf8_any s w (by unfold maxLen; omega))
  clear hA hEE
  go_enter Tryz.func39, Tryz.ntmps39
  go_wp2_with fail
  refine HU.out.mono ?_
  rintro e w' ⟨rfl, rfl⟩
  clear HU
  cases hv : Lib.validD s
  · have HF := Lib.hid (show ANS = false by rw [HA.out]; unfold lettersX; rw [hv]; simp)
    clear hv
    go_wp2
    rw [HEE.out, HF.out]
    exact ⟨rfl, Below.refl _ _⟩
  have HV := Lib.hid hv
  clear hv
  go_wp2_with fail
  go_loopg [3, 4, 5] s.length (fun gk v3 v4 v5 wr => ∃ (k : Nat), k ≤ s.length ∧ s.length ≤ k + gk ∧ v3 = .int .i64 k ∧ Hid (Lib.validD (s.drop k) = true) ∧ Hid (lettersX (s.drop k) = ANS) ∧ Hid (Below w.heap.size w wr))
  case atStart => exact ⟨0, Nat.zero_le _, by omega, rfl, HV, Lib.hid HA.out.symm, Lib.hid (Below.refl _ _)⟩
  case round =>
    obtain ⟨k, hk, hkg, rfl, hvd, hle, hbr⟩ := hrel
    rcases Nat.lt_or_ge k s.length with hlt | hge
    · have hne : s.drop k ≠ [] := by intro h; have := drop_nil h; omega
      have hst := letters_step hne
      have hvo := valid_ok hne
      rw [hvd.out] at hvo
      have hok : okL (s.drop k) = true := by cases h : okL (s.drop k) with | true => rfl | false => rw [h] at hvo; simp at hvo
      rw [hok] at hst hvo
      simp only [Bool.true_and] at hst hvo
      have hwd := Lib.decodeL_le (s.drop k) hne
      have hwd1 := Lib.decodeL_width (s.drop k)
      rw [List.length_drop] at hwd
      have HL := Lib.hid (letter_any s k wr hlt hs hok)
      have HAl := Lib.hid (fun w' => allowed_any (Lib.decodeL (s.drop k)).1 w')
      rw [List.drop_drop] at hst hvo
      rw [hle.out] at hst
      generalize (Lib.decodeL (s.drop k)).1 = V at *
      generalize (Lib.decodeL (s.drop k)).2 = W at *
      have HST := Lib.hid hst
      have HVO := Lib.hid hvo.symm
      have k1 : (k : Int) < s.length := by omega
      clear hst hvo hok hne hvd hle
      go_wp2_with fail
      refine HL.out.mono ?_
      rintro e w2 ⟨rfl, hb2⟩
      have HB2 := Lib.hid (hbr.out.trans (hb2.mono hbr.out.size))
      clear HL hb2 hbr
      go_wp2_with fail
      refine (HAl.out w2).mono ?_
      rintro e w3 ⟨rfl, rfl⟩
      clear HAl
      cases hc : letC V
      · have HF := Lib.hid (show ANS = false by rw [HST.out, hc]; rfl)
        clear hc
        go_wp2
        rw [HEE.out, HF.out]
        exact ⟨rfl, HB2.out⟩
      · have HN := Lib.hid (show lettersX (s.drop (k + W)) = ANS by rw [HST.out, hc]; rfl)
        clear hc
        go_wp2
        go_roundg (gk - W)
        case measure => omega
        case rel => exact ⟨k + W, by omega, by omega, by go_num, HVO, HN, HB2⟩
    · have hke : k = s.length := by omega
      subst hke
      have HT := Lib.hid (show ANS = true by rw [← hle.out, List.drop_length]; rfl)
      go_wp2
      rw [HEE.out, HT.out]
      exact ⟨rfl, hbr.out⟩
end Go.Proofs.YtcamdnfhnianbaaGreatDoor
/-! XmlNm -/
namespace Go.Proofs.YtcamdnfhnianbaaGreatDoor
set_option linter.unusedVariables false
set_option linter.unusedSimpArgs false
open Go.RowKit

set_option maxHeartbeats 4000000 in
set_option maxRecDepth 100000 in
set_option linter.unusedSimpArgs false in
theorem begins_any (c : UInt8) (w : World) : Calls Tryz.prog 121 #[.int .u8 (c.toNat : Int)] w (Same0 (.bool (firC c)) w) := by
  obtain ⟨ANS, hA⟩ : ∃ A, A = firC c := ⟨_, rfl⟩
  rw [← hA]
  have HA := Lib.hid hA
  have hc := c.toNat_lt
  clear hA
  go_enter Tryz.func121, Tryz.ntmps121
  go_wp2
  all_goals
    go_ret
    refine ⟨?_, rfl⟩
    rw [HA.out]
    refine congrArg (fun b => Ending.returned (.bool b)) ?_
    unfold firC
    rw [Bool.eq_iff_iff]
    simp only [Bool.or_eq_true, decide_eq_true_eq, beq_iff_eq, Bool.and_eq_true, Bool.false_eq_true, true_iff, false_iff]
    omega
set_option maxHeartbeats 4000000 in
set_option maxRecDepth 100000 in
set_option linter.unusedSimpArgs false in
theorem goes_any (c : UInt8) (w : World) : Calls Tryz.prog 122 #[.int .u8 (c.toNat : Int)] w (Same0 (.bool (othC c)) w) := by
  obtain ⟨ANS, hA⟩ : ∃ A, A = othC c := ⟨_, rfl⟩
  rw [← hA]
  have HA := Lib.hid hA
  have hc := c.toNat_lt
  have HB := Lib.hid (begins_any c w)
  clear hA
  go_enter Tryz.func122, Tryz.ntmps122
  go_wp2_with fail
  refine HB.out.mono ?_
  rintro e w' ⟨rfl, rfl⟩
  clear HB
  cases hf : firC c
  all_goals
    have HF := Lib.hid hf
    clear hf
    go_wp2
    all_goals
      go_ret
      refine ⟨?_, rfl⟩
      rw [HA.out]
      refine congrArg (fun b => Ending.returned (.bool b)) ?_
      unfold othC
      rw [HF.out]
      first | rfl | (rw [Bool.eq_iff_iff]; simp only [Bool.or_eq_true, Bool.false_or, decide_eq_true_eq, beq_iff_eq, Bool.and_eq_true, Bool.false_eq_true, true_iff, false_iff]; omega)
theorem nameOk_cons2 (x : UInt8) (r : List UInt8) : nameOk (x :: r) = (firC x && r.all othC) := by
  show (firC x && (x :: r).all othC) = _
  rw [List.all_cons]
  cases h : firC x with
  | false => rfl
  | true => rw [show othC x = true by unfold othC; rw [h]; rfl]; rfl
set_option maxHeartbeats 2000000 in
set_option maxRecDepth 100000 in
set_option linter.unusedSimpArgs false in
theorem xrname_any (s : List UInt8) (w : World) (hs : s.length ≤ 1000000000) : Calls Tryz.prog 95 #[.string ⟨s.toArray⟩] w (Same0 (.bool (nameOk s)) w) := by
  rcases s with _ | ⟨x, r⟩
  · go_enter Tryz.func95, Tryz.ntmps95
    go_wp2
    go_ret
    exact ⟨rfl, rfl⟩
  · have HF := Lib.hid (begins_any x w)
    have HO := Lib.hid goes_any
    have hx0 : ∀ hk, (⟨(x :: r).toArray⟩ : ByteArray)[0]'hk = x := fun hk => rfl
    have hne : (x :: r).isEmpty = false := rfl
    obtain ⟨ANS, hA⟩ : ∃ A, nameOk (x :: r) = A := ⟨_, rfl⟩
    rw [hA]
    have HA := Lib.hid hA
    have HC := Lib.hid (nameOk_cons2 x r)
    have hlen : 0 < (x :: r).length := Nat.succ_pos _
    have H1 := Lib.hid (show (x :: r).drop 1 = r from rfl)
    have hlen2 : ((x :: r).length : Int) ≠ 0 := by simp; omega
    have hlb : (((x :: r).length : Int) == 0) = false := beq_eq_false_iff_ne.2 hlen2
    generalize hl : x :: r = l at *
    clear hA hl
    cases hf : firC x
    · rw [hf] at HF HC
      obtain rfl : ANS = false := by rw [← HA.out, HC.out]; rfl
      clear hf HC HA HO
      go_enter Tryz.func95, Tryz.ntmps95
      go_wp2_with fail
      refine HF.out.mono ?_
      rintro e w1 ⟨rfl, rfl⟩
      go_wp2
      go_ret
      exact ⟨rfl, rfl⟩
    · rw [hf] at HF HC
      have HK0 := Lib.hid (show (l.drop 1).all othC = ANS by rw [H1.out, ← HA.out, HC.out]; rfl)
      clear hf HC HA H1
      go_enter Tryz.func95, Tryz.ntmps95
      go_wp2_with fail
      refine HF.out.mono ?_
      rintro e w1 ⟨rfl, rfl⟩
      clear HF
      go_wp2_with fail
      go_loopg [3] l.length (fun gk i wr => ∃ k : Nat, k ≤ l.length ∧ l.length ≤ k + gk ∧ i = .int .i64 k ∧ Hid ((l.drop k).all othC = ANS) ∧ w = wr)
      case atStart => exact ⟨1, by omega, by omega, rfl, HK0, rfl⟩
      case round =>
        obtain ⟨k, hk, hkg, rfl, HK, rfl⟩ := hrel
        clear HK0
        rcases hd : l.drop k with _ | ⟨y, q⟩
        · have hk2 : k = l.length := by have := drop_nil hd; omega
          rw [hd] at HK
          obtain rfl : true = ANS := HK.out
          subst hk2
          clear hd HK
          go_wp2
          go_ret
          exact ⟨rfl, rfl⟩
        · obtain ⟨hlt, hxb, hr⟩ := drop_cons hd
          have k1 : (k : Int) < l.length := by omega
          have k2 : (0 : Int) ≤ k := by omega
          have HOy := Lib.hid (HO.out y w)
          rw [hd, List.all_cons] at HK
          have HKq := Lib.hid (show (othC y && (l.drop (k + 1)).all othC) = ANS by rw [← HK.out, ← hr])
          clear hd hr HK
          go_wp2_with fail
          refine HOy.out.mono ?_
          rintro e w1 ⟨rfl, rfl⟩
          cases hy : othC y
          · obtain rfl : ANS = false := by rw [← HKq.out, hy]; rfl
            clear hy HKq
            go_wp2
            go_ret
            exact ⟨rfl, rfl⟩
          · have HN := Lib.hid (show (l.drop (k + 1)).all othC = ANS by rw [← HKq.out, hy]; rfl)
            clear hy HKq
            go_wp2
            go_roundg (gk - 1)
            case measure => omega
            case rel => exact ⟨k + 1, by omega, by omega, by go_num, HN, rfl⟩
end Go.Proofs.YtcamdnfhnianbaaGreatDoor

/-
  The walks of the reference's test of good UTF-8. Condition: a string's length is an int's.
-/
import Derived.Test.YthfdhanhkanhhaaDoorUriA
import Derived.Test.YthfdhanhkanhhaaDoorUtf8
namespace Go.Proofs.YthfdhanhkanhhaaDoor
open Go.RowKit

/-- what rune1 hands back. -/
def Rune1 (l : List UInt8) (w : World) (e : Ending) (w' : World) : Prop := ∃ n : Int, e = .returned (.tuple #[.int .i64 n, .bool (okL l)]) ∧ (okL l = true → n = ((Lib.decodeL l).2 : Int)) ∧ w = w'
theorem r1_no {l : List UInt8} {w : World} (n : Int) (h : okL l = false) : Rune1 l w (.returned (.tuple #[.int .i64 n, .bool false])) w := ⟨n, by rw [h], fun e => by simp [h] at e, rfl⟩
theorem r1_yes {l : List UInt8} {w : World} (n : Int) (h : okL l = true) (h2 : ((Lib.decodeL l).2 : Int) = n) : Rune1 l w (.returned (.tuple #[.int .i64 n, .bool true])) w := ⟨n, by rw [h], fun _ => h2.symm, rfl⟩
theorem r1_b {l : List UInt8} {w : World} (n : Int) (b : Bool) (h : okL l = b) (h2 : okL l = true → ((Lib.decodeL l).2 : Int) = n) : Rune1 l w (.returned (.tuple #[.int .i64 n, .bool b])) w := ⟨n, by rw [h], fun h' => (h2 h').symm, rfl⟩

/-- the value behind k rounds. -/
def accI (l : List UInt8) (v : Int) : Nat → Int
  | 0 => v
  | k + 1 => accI l v k * 64 + byteI l (k + 1) - 128
theorem accI_bd {l : List UInt8} {v : Int} (h0 : 0 ≤ v) (h1 : v ≤ 31) : ∀ k, k ≤ 3 → (∀ j, j < k → contI (byteI l (j + 1))) → 0 ≤ accI l v k ∧ accI l v k ≤ 8388607 ∧ (k ≤ 2 → accI l v k ≤ 131071) := by
  intro k hk hc
  match k, hk with
  | 0, _ => simp only [accI]; omega
  | 1, _ => have a := hc 0 (by omega); unfold contI at a; simp only [accI]; omega
  | 2, _ => have a := hc 0 (by omega); have b := hc 1 (by omega); unfold contI at a b; simp only [accI] at *; omega
  | 3, _ => have a := hc 0 (by omega); have b := hc 1 (by omega); have c := hc 2 (by omega); unfold contI at a b c; simp only [accI] at *; omega

theorem okcase {l : List UInt8} {n : Nat} {sub : Int} (hn : n = 2 ∧ sub = 192 ∧ 192 ≤ byteI l 0 ∧ byteI l 0 < 224 ∨ n = 3 ∧ sub = 224 ∧ 224 ≤ byteI l 0 ∧ byteI l 0 < 240 ∨ n = 4 ∧ sub = 240 ∧ 240 ≤ byteI l 0 ∧ byteI l 0 < 248) :
    (l.length < n → okL l = false) ∧ (∀ k, k + 1 < n → ¬ contI (byteI l (k + 1)) → okL l = false) ∧
    (n ≤ l.length → (∀ j, j + 1 < n → contI (byteI l (j + 1))) → (okL l = true ↔ (if n = 2 then 128 else if n = 3 then 2048 else 65536) ≤ accI l (byteI l 0 - sub) (n - 1) ∧ accI l (byteI l 0 - sub) (n - 1) ≤ 1114111 ∧ (accI l (byteI l 0 - sub) (n - 1) < 55296 ∨ 57343 < accI l (byteI l 0 - sub) (n - 1)))) ∧
    (okL l = true → (Lib.decodeL l).2 = n) := by
  have b1 := byteI_lt l 1
  have b2 := byteI_lt l 2
  have b3 := byteI_lt l 3
  rcases hn with ⟨rfl, rfl, h0, h1⟩ | ⟨rfl, rfl, h0, h1⟩ | ⟨rfl, rfl, h0, h1⟩
  · obtain ⟨h, hw⟩ := ok2 h0 h1
    refine ⟨fun hl => ?_, fun k hk hc => ?_, fun hl hc => ?_, hw⟩
    · rw [Bool.eq_false_iff, ne_eq, h]; omega
    · obtain rfl : k = 0 := by omega
      rw [Bool.eq_false_iff, ne_eq, h]; intro ⟨_, h', _⟩; exact hc h'
    · have c1 := hc 0 (by omega)
      rw [h]; unfold contI at *; simp only [accI, if_pos, Nat.zero_add, Nat.reduceSub] at *; omega
  · obtain ⟨h, hw⟩ := ok3 h0 h1
    refine ⟨fun hl => ?_, fun k hk hc => ?_, fun hl hc => ?_, hw⟩
    · rw [Bool.eq_false_iff, ne_eq, h]; omega
    · rw [Bool.eq_false_iff, ne_eq, h]; intro ⟨_, h', h'', _⟩
      rcases (by omega : k = 0 ∨ k = 1) with rfl | rfl
      · exact hc h'
      · exact hc h''
    · have c1 := hc 0 (by omega)
      have c2 := hc 1 (by omega)
      rw [h, if_neg (by omega), if_pos rfl]; unfold contI at *; simp only [accI, Nat.zero_add, Nat.reduceAdd, Nat.reduceSub] at *; omega
  · obtain ⟨h, hw⟩ := ok4 h0 h1
    refine ⟨fun hl => ?_, fun k hk hc => ?_, fun hl hc => ?_, hw⟩
    · rw [Bool.eq_false_iff, ne_eq, h]; omega
    · rw [Bool.eq_false_iff, ne_eq, h]; intro ⟨_, h', h'', h3, _⟩
      rcases (by omega : k = 0 ∨ k = 1 ∨ k = 2) with rfl | rfl | rfl
      · exact hc h'
      · exact hc h''
      · exact hc h3
    · have c1 := hc 0 (by omega)
      have c2 := hc 1 (by omega)
      have c3 := hc 2 (by omega)
      rw [h, if_neg (by omega), if_neg (by omega)]; unfold contI at *; simp only [accI, Nat.zero_add, Nat.reduceAdd, Nat.reduceSub] at *; omega

set_option maxHeartbeats 400000 in
set_option maxRecDepth 100000 in
set_option linter.unusedSimpArgs false in
theorem rune1_low (l : List UInt8) (w : World) (h0 : 0 < l.length) (h : byteI l 0 < 128) :
    Calls Tryd.prog 74 #[.string ⟨l.toArray⟩] w (Rune1 l w) := by
  have g0 := byteI_get h0
  have bd := byteI_lt l 0
  obtain ⟨ok, wd⟩ := ok1 h
  go_enter Tryd.func74, Tryd.ntmps74
  go_wp2
  go_ret2
  exact r1_yes 1 ok (by rw [wd]; rfl)
set_option maxHeartbeats 400000 in
set_option maxRecDepth 100000 in
set_option linter.unusedSimpArgs false in
theorem rune1_bad (l : List UInt8) (w : World) (h0 : 0 < l.length) (h : 128 ≤ byteI l 0 ∧ byteI l 0 < 192 ∨ 248 ≤ byteI l 0) :
    Calls Tryd.prog 74 #[.string ⟨l.toArray⟩] w (Rune1 l w) := by
  have g0 := byteI_get h0
  have bd := byteI_lt l 0
  have ok := okbad h
  rcases h with ⟨h, h'⟩ | h
  all_goals
    go_enter Tryd.func74, Tryd.ntmps74
    go_wp2
    go_ret2
    exact r1_no 0 ok
set_option maxHeartbeats 800000 in
set_option maxRecDepth 100000 in
set_option linter.unusedSimpArgs false in
theorem rune1_2 (l : List UInt8) (w : World) (h0 : 0 < l.length) (hs : l.length ≤ maxLen) (h : 192 ≤ byteI l 0) (h' : byteI l 0 < 224) :
    Calls Tryd.prog 74 #[.string ⟨l.toArray⟩] w (Rune1 l w) := by
  unfold maxLen at hs
  have g0 := byteI_get h0
  obtain ⟨c1, c2, c3, c4⟩ := okcase (l := l) (n := 2) (sub := 192) (by omega)
  have C1 := Lib.hid c1
  have C2 := Lib.hid c2
  have c3' : 2 ≤ l.length → (∀ j, j + 1 < 2 → contI (byteI l (j + 1))) → (okL l = true ↔ 128 ≤ accI l (byteI l 0 - 192) (2 - 1) ∧ accI l (byteI l 0 - 192) (2 - 1) ≤ 1114111 ∧ (accI l (byteI l 0 - 192) (2 - 1) < 55296 ∨ 57343 < accI l (byteI l 0 - 192) (2 - 1))) := c3
  have C3 := Lib.hid c3'
  have C4 := Lib.hid c4
  clear c1 c2 c3 c3' c4
  by_cases hl : l.length < 2
  · go_enter Tryd.func74, Tryd.ntmps74
    go_wp2
    go_ret2
    exact r1_no 0 (C1.out hl)
  · go_enter Tryd.func74, Tryd.ntmps74
    go_wp2
    go_loop [7, 8, 9] (fun v i d => ∃ k : Nat, k + 1 ≤ 2 ∧ i = .int .i64 (↑(k + 1) : Int) ∧ v = .int .i64 (accI l (byteI l 0 - 192) k) ∧ Hid (∀ j, j < k → contI (byteI l (j + 1)))) (fun _ i _ => 2 - (intOf i).toNat)
    case atStart => exact ⟨0, by omega, rfl, rfl, fun j h => by omega⟩
    case round =>
      obtain ⟨k, hk, rfl, rfl, H⟩ := hrel
      clear g0
      have bd := accI_bd (l := l) (v := byteI l 0 - 192) (by omega) (by omega) k (by omega) H.out
      obtain ⟨q1, q2, q3⟩ := bd
      by_cases hlt : k + 1 < 2
      · have q4 := q3 (by omega)
        clear q3
        have g := byteI_get (l := l) (j := k + 1) (by omega)
        have gb := byteI_lt l (k + 1)
        by_cases hc : contI (byteI l (k + 1))
        · have Hc := Lib.hid hc
          unfold contI at hc
          obtain ⟨hc1, hc2⟩ := hc
          go_wp2
          go_round
          case rel =>
            refine ⟨k + 1, by omega, by go_num, rfl, fun j hj => ?_⟩
            by_cases e : j = k
            · subst e; exact Hc.out
            · exact H.out j (by omega)
          case measure => simp [intOf]; omega
        · have Hc := Lib.hid hc
          unfold contI at hc
          rcases (by omega : byteI l (k + 1) < 128 ∨ 191 < byteI l (k + 1)) with hc' | hc'
          all_goals
            clear hc
            go_wp2
            go_ret2
            exact r1_no 0 (C2.out k hlt Hc.out)
      · obtain rfl : k = 2 - 1 := by omega
        have h3 := C3.out (by omega) (fun j hj => H.out j (by omega))
        have C3 := Lib.hid h3
        clear h3 q3
        go_wp2
        all_goals go_ret2
        all_goals (refine r1_b 2 _ ?_ (fun h => by rw [C4.out h]; rfl); rw [Bool.eq_iff_iff, C3.out]; simp; omega)
set_option maxHeartbeats 800000 in
set_option maxRecDepth 100000 in
set_option linter.unusedSimpArgs false in
theorem rune1_3 (l : List UInt8) (w : World) (h0 : 0 < l.length) (hs : l.length ≤ maxLen) (h : 224 ≤ byteI l 0) (h' : byteI l 0 < 240) :
    Calls Tryd.prog 74 #[.string ⟨l.toArray⟩] w (Rune1 l w) := by
  unfold maxLen at hs
  have g0 := byteI_get h0
  obtain ⟨c1, c2, c3, c4⟩ := okcase (l := l) (n := 3) (sub := 224) (by omega)
  have C1 := Lib.hid c1
  have C2 := Lib.hid c2
  have c3' : 3 ≤ l.length → (∀ j, j + 1 < 3 → contI (byteI l (j + 1))) → (okL l = true ↔ 2048 ≤ accI l (byteI l 0 - 224) (3 - 1) ∧ accI l (byteI l 0 - 224) (3 - 1) ≤ 1114111 ∧ (accI l (byteI l 0 - 224) (3 - 1) < 55296 ∨ 57343 < accI l (byteI l 0 - 224) (3 - 1))) := c3
  have C3 := Lib.hid c3'
  have C4 := Lib.hid c4
  clear c1 c2 c3 c3' c4
  by_cases hl : l.length < 3
  · go_enter Tryd.func74, Tryd.ntmps74
    go_wp2
    go_ret2
    exact r1_no 0 (C1.out hl)
  · go_enter Tryd.func74, Tryd.ntmps74
    go_wp2
    go_loop [7, 8, 9] (fun v i d => ∃ k : Nat, k + 1 ≤ 3 ∧ i = .int .i64 (↑(k + 1) : Int) ∧ v = .int .i64 (accI l (byteI l 0 - 224) k) ∧ Hid (∀ j, j < k → contI (byteI l (j + 1)))) (fun _ i _ => 3 - (intOf i).toNat)
    case atStart => exact ⟨0, by omega, rfl, rfl, fun j h => by omega⟩
    case round =>
      obtain ⟨k, hk, rfl, rfl, H⟩ := hrel
      clear g0
      have bd := accI_bd (l := l) (v := byteI l 0 - 224) (by omega) (by omega) k (by omega) H.out
      obtain ⟨q1, q2, q3⟩ := bd
      by_cases hlt : k + 1 < 3
      · have q4 := q3 (by omega)
        clear q3
        have g := byteI_get (l := l) (j := k + 1) (by omega)
        have gb := byteI_lt l (k + 1)
        by_cases hc : contI (byteI l (k + 1))
        · have Hc := Lib.hid hc
          unfold contI at hc
          obtain ⟨hc1, hc2⟩ := hc
          go_wp2
          go_round
          case rel =>
            refine ⟨k + 1, by omega, by go_num, rfl, fun j hj => ?_⟩
            by_cases e : j = k
            · subst e; exact Hc.out
            · exact H.out j (by omega)
          case measure => simp [intOf]; omega
        · have Hc := Lib.hid hc
          unfold contI at hc
          rcases (by omega : byteI l (k + 1) < 128 ∨ 191 < byteI l (k + 1)) with hc' | hc'
          all_goals
            clear hc
            go_wp2
            go_ret2
            exact r1_no 0 (C2.out k hlt Hc.out)
      · obtain rfl : k = 3 - 1 := by omega
        have h3 := C3.out (by omega) (fun j hj => H.out j (by omega))
        have C3 := Lib.hid h3
        clear h3 q3
        go_wp2
        all_goals go_ret2
        all_goals (refine r1_b 3 _ ?_ (fun h => by rw [C4.out h]; rfl); rw [Bool.eq_iff_iff, C3.out]; simp; omega)
set_option maxHeartbeats 800000 in
set_option maxRecDepth 100000 in
set_option linter.unusedSimpArgs false in
theorem rune1_4 (l : List UInt8) (w : World) (h0 : 0 < l.length) (hs : l.length ≤ maxLen) (h : 240 ≤ byteI l 0) (h' : byteI l 0 < 248) :
    Calls Tryd.prog 74 #[.string ⟨l.toArray⟩] w (Rune1 l w) := by
  unfold maxLen at hs
  have g0 := byteI_get h0
  obtain ⟨c1, c2, c3, c4⟩ := okcase (l := l) (n := 4) (sub := 240) (by omega)
  have C1 := Lib.hid c1
  have C2 := Lib.hid c2
  have c3' : 4 ≤ l.length → (∀ j, j + 1 < 4 → contI (byteI l (j + 1))) → (okL l = true ↔ 65536 ≤ accI l (byteI l 0 - 240) (4 - 1) ∧ accI l (byteI l 0 - 240) (4 - 1) ≤ 1114111 ∧ (accI l (byteI l 0 - 240) (4 - 1) < 55296 ∨ 57343 < accI l (byteI l 0 - 240) (4 - 1))) := c3
  have C3 := Lib.hid c3'
  have C4 := Lib.hid c4
  clear c1 c2 c3 c3' c4
  by_cases hl : l.length < 4
  · go_enter Tryd.func74, Tryd.ntmps74
    go_wp2
    go_ret2
    exact r1_no 0 (C1.out hl)
  · go_enter Tryd.func74, Tryd.ntmps74
    go_wp2
    go_loop [7, 8, 9] (fun v i d => ∃ k : Nat, k + 1 ≤ 4 ∧ i = .int .i64 (↑(k + 1) : Int) ∧ v = .int .i64 (accI l (byteI l 0 - 240) k) ∧ Hid (∀ j, j < k → contI (byteI l (j + 1)))) (fun _ i _ => 4 - (intOf i).toNat)
    case atStart => exact ⟨0, by omega, rfl, rfl, fun j h => by omega⟩
    case round =>
      obtain ⟨k, hk, rfl, rfl, H⟩ := hrel
      clear g0
      have bd := accI_bd (l := l) (v := byteI l 0 - 240) (by omega) (by omega) k (by omega) H.out
      obtain ⟨q1, q2, q3⟩ := bd
      by_cases hlt : k + 1 < 4
      · have q4 := q3 (by omega)
        clear q3
        have g := byteI_get (l := l) (j := k + 1) (by omega)
        have gb := byteI_lt l (k + 1)
        by_cases hc : contI (byteI l (k + 1))
        · have Hc := Lib.hid hc
          unfold contI at hc
          obtain ⟨hc1, hc2⟩ := hc
          go_wp2
          go_round
          case rel =>
            refine ⟨k + 1, by omega, by go_num, rfl, fun j hj => ?_⟩
            by_cases e : j = k
            · subst e; exact Hc.out
            · exact H.out j (by omega)
          case measure => simp [intOf]; omega
        · have Hc := Lib.hid hc
          unfold contI at hc
          rcases (by omega : byteI l (k + 1) < 128 ∨ 191 < byteI l (k + 1)) with hc' | hc'
          all_goals
            clear hc
            go_wp2
            go_ret2
            exact r1_no 0 (C2.out k hlt Hc.out)
      · obtain rfl : k = 4 - 1 := by omega
        have h3 := C3.out (by omega) (fun j hj => H.out j (by omega))
        have C3 := Lib.hid h3
        clear h3 q3
        go_wp2
        all_goals go_ret2
        all_goals (refine r1_b 4 _ ?_ (fun h => by rw [C4.out h]; rfl); rw [Bool.eq_iff_iff, C3.out]; simp; omega)
theorem rune1_any (l : List UInt8) (w : World) (h0 : 0 < l.length) (hs : l.length ≤ maxLen) :
    Calls Tryd.prog 74 #[.string ⟨l.toArray⟩] w (Rune1 l w) := by
  have bd := byteI_lt l 0
  rcases (by omega : byteI l 0 < 128 ∨ (128 ≤ byteI l 0 ∧ byteI l 0 < 192 ∨ 248 ≤ byteI l 0) ∨ (192 ≤ byteI l 0 ∧ byteI l 0 < 224) ∨ (224 ≤ byteI l 0 ∧ byteI l 0 < 240) ∨ (240 ≤ byteI l 0 ∧ byteI l 0 < 248)) with h | h | h | h | h
  · exact rune1_low l w h0 h
  · exact rune1_bad l w h0 h
  · exact rune1_2 l w h0 hs h.1 h.2
  · exact rune1_3 l w h0 hs h.1 h.2
  · exact rune1_4 l w h0 hs h.1 h.2

end Go.Proofs.YthfdhanhkanhhaaDoor

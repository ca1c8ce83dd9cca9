/-
  The walks of the reference's token, Lower, Trim and Digits. Condition: lengths as they stand.
-/
import Derived.Test.YtlkbfehdiopkbaaGreatDoorRepMem
import Derived.Deep.LoopGhost
import Derived.Deep.QuietTactic
import Derived.BigQuiet
namespace Go.Proofs.YtlkbfehdiopkbaaGreatDoor
open Go.RowKit

/-- the letters and digits of a token. -/
def letC (c : Int) : Bool := decide (97 ≤ c ∧ c ≤ 122 ∨ 65 ≤ c ∧ c ≤ 90 ∨ 48 ≤ c ∧ c ≤ 57)
theorem letC_yes (c : Int) (h : 97 ≤ c ∧ c ≤ 122 ∨ 65 ≤ c ∧ c ≤ 90 ∨ 48 ≤ c ∧ c ≤ 57) : letC c = true := decide_eq_true h
theorem letC_no (c : Int) (h : ¬ (97 ≤ c ∧ c ≤ 122 ∨ 65 ≤ c ∧ c ≤ 90 ∨ 48 ≤ c ∧ c ≤ 57)) : letC c = false := decide_eq_false h
theorem tokC_eq (c : UInt8) : tokC c.toNat = (letC c.toNat || markS.any fun m => decide ((m.toNat : Int) = (c.toNat : Int))) := rfl
/-- the marks from place k on: is the byte one of them, or was it found already? -/
def markF (t : Bool) (k : Nat) (c : UInt8) : Bool := t || (markS.drop k).any fun m => decide ((m.toNat : Int) = (c.toNat : Int))
theorem markF_yes (k : Nat) (c : UInt8) : markF true k c = true := rfl
theorem markF_end (t : Bool) (c : UInt8) : markF t 15 c = t := by unfold markF; rw [show markS.drop 15 = [] from rfl]; simp
theorem markF_hit {k : Nat} {c m : UInt8} {r : List UInt8} (h : markS.drop k = m :: r) (he : (m.toNat : Int) = (c.toNat : Int)) : markF false k c = true := by
  unfold markF; rw [h]; simp [he]
theorem markF_miss {k : Nat} {c m : UInt8} {r : List UInt8} (h : markS.drop k = m :: r) (he : ¬ (m.toNat : Int) = (c.toNat : Int)) : markF false (k + 1) c = markF false k c := by
  unfold markF
  rw [h, show markS.drop (k + 1) = r by rw [← List.tail_drop, h]; rfl]
  simp only [List.any_cons, decide_eq_false he, Bool.false_or]
theorem seven (c : Int) : (c < 48) ∨ (48 ≤ c ∧ c ≤ 57) ∨ (58 ≤ c ∧ c ≤ 64) ∨ (65 ≤ c ∧ c ≤ 90) ∨ (91 ≤ c ∧ c ≤ 96) ∨ (97 ≤ c ∧ c ≤ 122) ∨ (123 ≤ c) := by omega
set_option maxHeartbeats 2000000 in
set_option maxRecDepth 100000 in
set_option linter.unusedSimpArgs false in
theorem rtoken_any (s : List UInt8) (w : World) (hs : s.length ≤ maxLen) :
    Calls Tryz.prog 40 #[.string ⟨s.toArray⟩] w (Same0 (.bool (tokS s)) w) := by
  unfold maxLen at hs
  obtain ⟨ANS, hA⟩ : ∃ A, (s.all fun c => tokC c.toNat) = A := ⟨_, rfl⟩
  have HA2 := Lib.hid (show tokS s = (ANS && !decide (s = [])) by
    rw [← hA]
    unfold tokS
    rw [Bool.and_comm])
  go_enter Tryz.func40, Tryz.ntmps40
  go_wp2
  go_loop [3] (fun i => ∃ k : Nat, k ≤ s.length ∧ i = .int .i64 k ∧ Hid (((s.drop k).all fun c => tokC c.toNat) = ANS)) (fun i => s.length - (intOf i).toNat)
  case atStart => exact ⟨0, Nat.zero_le _, rfl, hA⟩
  case round =>
    obtain ⟨k, hk, rfl, HK⟩ := hrel
    clear hA
    rcases hd : s.drop k with _ | ⟨x, q⟩
    · have hk2 : k = s.length := by have := drop_nil hd; omega
      rw [hd] at HK
      obtain rfl : true = ANS := HK.out
      clear hd HK
      subst hk2
      go_wp2
      go_ret
      refine ⟨retb ?_, rfl⟩
      rw [HA2.out]
      cases s <;> simp
    · obtain ⟨hlt, hx, hq⟩ := drop_cons hd
      rw [hd, List.all_cons, tokC_eq] at HK
      have Hq := Lib.hid hq
      clear hd hq
      have HL := Lib.hid (letC_yes (x.toNat : Int))
      have HN := Lib.hid (letC_no (x.toNat : Int))
      generalize hT : (letC x.toNat || markS.any fun m => decide ((m.toNat : Int) = (x.toNat : Int))) = T at HK
      have HT := Lib.hid (show markF (letC x.toNat) 0 x = T from hT)
      clear hT
      by_cases a1 : 97 ≤ (x.toNat : Int) <;> by_cases a2 : (x.toNat : Int) ≤ 122 <;> by_cases a3 : 65 ≤ (x.toNat : Int) <;> by_cases a4 : (x.toNat : Int) ≤ 90 <;> by_cases a5 : 48 ≤ (x.toNat : Int) <;> by_cases a6 : (x.toNat : Int) ≤ 57 <;> first | (exfalso; omega) | skip
      all_goals
        first
          | (have hL := Lib.hid (HL.out (by omega)); rw [hL.out] at HT; clear hL)
          | (have hL := Lib.hid (HN.out (by omega)); rw [hL.out] at HT; clear hL)
        clear HL HN
        go_wp2_with fail
        go_loop [5, 6] (fun t i => ∃ (j : Nat) (b : Bool), j ≤ 15 ∧ i = .int .i64 j ∧ t = .bool b ∧ Hid (markF b j x = T)) (fun _ i => 15 - (intOf i).toNat)
        case atStart => exact ⟨0, _, by omega, rfl, rfl, HT⟩
        case round =>
          obtain ⟨j, b, hj, rfl, rfl, HJ⟩ := hrel
          clear HT a1 a2 a3 a4 a5 a6
          by_cases hj2 : j = 15
          · subst hj2
            have hbT : b = T := by rw [← HJ.out, markF_end]
            subst hbT
            clear HJ
            have hH : Hid (b = true → ((s.drop (k + 1)).all fun c => tokC c.toNat) = ANS) := fun h => by have := HK.out; rw [h, Bool.true_and] at this; rw [Hq.out]; exact this
            cases b
            · obtain rfl : false = ANS := by have := HK.out; simpa using this
              clear HK
              go_wp2
              go_ret
              refine ⟨retb ?_, rfl⟩
              rw [HA2.out]; rfl
            · have H2 := Lib.hid (hH rfl)
              clear hH HK
              go_wp2
              refine ⟨⟨k + 1, by omega, by go_num, H2⟩, ?_⟩
              simp [intOf]; omega
          · have hj3 : j < 15 := by omega
            have hj4 : (j : Int) < 15 := by omega
            cases b
            · rcases hm : markS.drop j with _ | ⟨m, r⟩
              · have := drop_nil hm; rw [show markS.length = 15 from rfl] at this; omega
              · obtain ⟨hml, hmx, hmr⟩ := drop_cons hm
                unfold markS at hmx
                by_cases he : (m.toNat : Int) = (x.toNat : Int)
                · have H3 := Lib.hid (show markF true (j + 1) x = T by rw [markF_yes, ← HJ.out, markF_hit hm he])
                  have he2 : ((m.toNat : Int) == (x.toNat : Int)) = true := by simpa using he
                  clear HJ hm hmr he
                  go_wp2
                  refine ⟨⟨j + 1, true, by omega, by go_num, rfl, H3⟩, ?_⟩
                  simp [intOf]; omega
                · have H3 := Lib.hid (show markF false (j + 1) x = T by rw [← HJ.out, markF_miss hm he])
                  have he2 : ((m.toNat : Int) == (x.toNat : Int)) = false := by simpa using he
                  clear HJ hm hmr he
                  go_wp2
                  refine ⟨⟨j + 1, false, by omega, by go_num, rfl, H3⟩, ?_⟩
                  simp [intOf]; omega
            · have H3 := Lib.hid (show markF true (j + 1) x = T from HJ.out)
              clear HJ
              go_wp2
              refine ⟨⟨j + 1, true, by omega, by go_num, rfl, H3⟩, ?_⟩
              simp [intOf]; omega

theorem set_same' {α : Type} {l : List α} {k : Nat} {x : α} (h : l[k]? = some x) : l.set k x = l := by
  obtain ⟨hk, rfl⟩ := List.getElem?_eq_some_iff.1 h
  exact List.set_getElem_self hk
theorem low_next {s q : List UInt8} {k : Nat} {x : UInt8} (hd : s.drop k = x :: q) : (lowS (s.take k) ++ x :: q).set k (lowC x) = lowS (s.take (k + 1)) ++ q := by
  have hlt : k < s.length := by
    rcases Nat.lt_or_ge k s.length with h | h
    · exact h
    · rw [List.drop_eq_nil_of_le h] at hd; cases hd
  have hx : s[k]? = some x := by
    rw [List.drop_eq_getElem_cons hlt] at hd
    injection hd with h1 h2
    rw [List.getElem?_eq_getElem hlt, h1]
  have hl : (lowS (s.take k)).length = k := by unfold lowS; rw [List.length_map, List.length_take]; omega
  rw [List.set_append_right _ _ (by omega), hl, Nat.sub_self, List.set_cons_zero, List.take_add_one, hx]
  unfold lowS
  simp
theorem low_at {s q : List UInt8} {k : Nat} {x : UInt8} (hd : s.drop k = x :: q) : (lowS (s.take k) ++ x :: q)[k]? = some x ∧ k < (lowS (s.take k) ++ x :: q).length := by
  have hlt : k < s.length := by
    rcases Nat.lt_or_ge k s.length with h | h
    · exact h
    · rw [List.drop_eq_nil_of_le h] at hd; cases hd
  have hl : (lowS (s.take k)).length = k := by unfold lowS; rw [List.length_map, List.length_take]; omega
  refine ⟨?_, by rw [List.length_append, hl, List.length_cons]; omega⟩
  rw [List.getElem?_append_right (by omega), hl, Nat.sub_self]
  rfl
theorem lowC_up (x : UInt8) (h : 65 ≤ (x.toNat : Int)) (h2 : (x.toNat : Int) ≤ 90) : ((lowC x).toNat : Int) = x.toNat + 32 := by
  unfold lowC
  rw [if_pos ⟨by omega, by omega⟩, UInt8.toNat_add, show (32 : UInt8).toNat = 32 from rfl, Nat.mod_eq_of_lt (by omega)]
  omega
theorem lowC_id (x : UInt8) (h : ¬ (65 ≤ (x.toNat : Int) ∧ (x.toNat : Int) ≤ 90)) : lowC x = x := by
  unfold lowC
  rw [if_neg (by omega)]
set_option maxHeartbeats 1000000 in
set_option maxRecDepth 100000 in
set_option linter.unusedSimpArgs false in
theorem rlower_any (s : List UInt8) (w : World) (hs : s.length ≤ maxLen) :
    Calls Tryz.prog 39 #[.string ⟨s.toArray⟩] w (Ret (.string ⟨(lowS s).toArray⟩) w) := by
  have hcv := conv_string w s
  have hb0 := bytes_below w s
  have hw0 := bytes_bw w s
  have hc1 := grownCap_ge w s.length 0 5
  have hc2 := grownCap_le_maxLen w s.length 0 5 hs
  generalize grownCap w s.length 0 5 = cap at *
  generalize Lib.bytesWorld w 5 ⟨s.toArray⟩ = wb at *
  unfold maxLen at hs
  go_enter Tryz.func39, Tryz.ntmps39
  go_wp2
  have hw1 := Lib.hid hw0
  clear hcv hw0
  go_loopw [4] (fun i wr => ∃ k : Nat, k ≤ s.length ∧ i = .int .i64 k ∧ BW wr w.heap.size (lowS (s.take k) ++ s.drop k) ∧ Below w.heap.size w wr) (fun i _ => s.length - (intOf i).toNat)
  case atStart => exact ⟨0, Nat.zero_le _, rfl, by simpa [lowS] using hw1.out, hb0⟩
  case round =>
    obtain ⟨k, hk, rfl, hbw, hbr⟩ := hrel
    clear hb0 hw1
    rcases hd : s.drop k with _ | ⟨x, q⟩
    · have hk2 : k = s.length := by have := drop_nil hd; omega
      rw [hd, List.append_nil, List.take_of_length_le (by omega)] at hbw
      clear hd
      subst hk2
      have hll : (lowS s).length = s.length := by unfold lowS; rw [List.length_map]
      have hcv2 := conv_bytes wr (.slice (some ⟨w.heap.size, 0, none⟩) (lowS s).length cap) (lowS s) (hbw.rd cap (by omega) hc2)
      rw [hll] at hcv2
      clear hll hbw
      go_wp2
      go_ret
      exact ⟨rfl, hbr⟩
    · obtain ⟨hlt, hx, hq⟩ := drop_cons hd
      rw [hd] at hbw
      obtain ⟨hat, hal⟩ := low_at hd
      obtain ⟨hc, hf⟩ := hbw.2 k x hat
      have HSet := Lib.hid (hbw.set k (lowC x) hal)
      rw [low_next hd] at HSet
      have HBW := Lib.hid hbw
      have Hq := Lib.hid hq
      have Hd := Lib.hid hd
      clear hd hq hat hal hx hbw
      by_cases a1 : 65 ≤ (x.toNat : Int)
      · by_cases a2 : (x.toNat : Int) ≤ 90
        · have hlu := lowC_up x a1 a2
          rw [hlu] at HSet
          clear hlu
          go_wp2
          go_roundw
          case rel => exact ⟨k + 1, by omega, by go_num, by rw [Hq.out]; exact HSet.out, hbr.setCell (Nat.le_refl _) _⟩
          case measure => simp [intOf]; omega
        · have H2 := Lib.hid (show BW wr w.heap.size (lowS (s.take (k + 1)) ++ q) by
            have := low_next Hd.out
            rw [lowC_id x (by omega), set_same' (low_at Hd.out).1] at this
            rw [← this]; exact HBW.out)
          clear HSet HBW
          go_wp2
          go_roundw
          case rel => exact ⟨k + 1, by omega, by go_num, by rw [Hq.out]; exact H2.out, hbr⟩
          case measure => simp [intOf]; omega
      · have H2 := Lib.hid (show BW wr w.heap.size (lowS (s.take (k + 1)) ++ q) by
          have := low_next Hd.out
          rw [lowC_id x (by omega), set_same' (low_at Hd.out).1] at this
          rw [← this]; exact HBW.out)
        clear HSet HBW
        go_wp2
        go_roundw
        case rel => exact ⟨k + 1, by omega, by go_num, by rw [Hq.out]; exact H2.out, hbr⟩
        case measure => simp [intOf]; omega

set_option maxHeartbeats 1000000 in
set_option maxRecDepth 100000 in
set_option linter.unusedSimpArgs false in
theorem rtrim_any (s : List UInt8) (w : World) (hs : s.length ≤ maxLen) :
    Calls Tryz.prog 41 #[.string ⟨s.toArray⟩] w (Same0 (.string ⟨(trimW s).toArray⟩) w) := by
  unfold maxLen at hs
  have HT := Lib.hid (trimW_eq s)
  generalize trimW s = T at HT
  obtain ⟨L, hL⟩ : ∃ L, Lib.trimLeftS s [32, 9] = L := ⟨_, rfl⟩
  rw [hL] at HT
  go_enter Tryz.func41, Tryz.ntmps41
  go_wp2
  go_loop [0] (fun t => ∃ l : List UInt8, l.length ≤ s.length ∧ t = .string ⟨l.toArray⟩ ∧ Hid (Lib.trimLeftS l [32, 9] = L)) (fun t => szV t)
  case atStart => exact ⟨s, Nat.le_refl _, rfl, hL⟩
  case round =>
    obtain ⟨l, hl, rfl, HL⟩ := hrel
    clear hL
    have hend : (∃ x q, l = x :: q ∧ ((x.toNat : Int) = 32 ∨ (x.toNat : Int) = 9)) ∨ (L = l ∧ (l = [] ∨ ∃ x q, l = x :: q ∧ ¬ (x.toNat : Int) = 32 ∧ ¬ (x.toNat : Int) = 9)) := by
      rcases l with _ | ⟨x, q⟩
      · exact .inr ⟨HL.out.symm, .inl rfl⟩
      · by_cases h1 : (x.toNat : Int) = 32
        · exact .inl ⟨x, q, rfl, .inl h1⟩
        · by_cases h2 : (x.toNat : Int) = 9
          · exact .inl ⟨x, q, rfl, .inr h2⟩
          · exact .inr ⟨by rw [← HL.out, trimL_not x q h1 h2], .inr ⟨x, q, rfl, h1, h2⟩⟩
    rcases hend with ⟨x, q, rfl, h⟩ | ⟨rfl, h⟩
    · have H2 := Lib.hid (show Lib.trimLeftS q [32, 9] = L by rw [← HL.out, trimL_white x q h])
      clear HL
      rw [List.length_cons] at hl
      obtain ⟨-, hx0, -⟩ := drop_cons (l := x :: q) (k := 0) (x := x) (r := q) rfl
      by_cases h1 : (x.toNat : Int) = 32
      · have h1b : ((x.toNat : Int) == 32) = true := by simpa using h1
        clear h1 h
        go_wp2
        go_round
        case rel => exact ⟨q, by omega, rfl, H2⟩
        case measure => rw [szV_str, szV_str, List.length_cons]; omega
      · have h1b : ((x.toNat : Int) == 32) = false := by simpa using h1
        have h2b : ((x.toNat : Int) == 9) = true := by simpa using h.resolve_left h1
        clear h1 h
        go_wp2
        go_round
        case rel => exact ⟨q, by omega, rfl, H2⟩
        case measure => rw [szV_str, szV_str, List.length_cons]; omega
    · clear HL
      rcases h with rfl | ⟨x, q, rfl, h1, h2⟩
      · have HT2 := Lib.hid HT.out.symm
        go_wp2
        clear HT
        have HBD : ([] : List UInt8).length ≤ s.length := Nat.zero_le _
        go_loop [0] (fun t => ∃ l : List UInt8, l.length ≤ s.length ∧ t = .string ⟨l.toArray⟩ ∧ Hid (Lib.trimRightS l [32, 9] = T)) (fun t => szV t)
        case atStart => exact ⟨_, HBD, rfl, HT2⟩
        case round =>
          obtain ⟨l, hl2, rfl, HL⟩ := hrel
          clear HT2 HBD
          have hend : (∃ q x, l = q ++ [x] ∧ ((x.toNat : Int) = 32 ∨ (x.toNat : Int) = 9)) ∨ (T = l ∧ (l = [] ∨ ∃ q x, l = q ++ [x] ∧ ¬ (x.toNat : Int) = 32 ∧ ¬ (x.toNat : Int) = 9)) := by
            rcases last_cases l with rfl | ⟨q, x, rfl⟩
            · exact .inr ⟨HL.out.symm, .inl rfl⟩
            · by_cases h1 : (x.toNat : Int) = 32
              · exact .inl ⟨q, x, rfl, .inl h1⟩
              · by_cases h2 : (x.toNat : Int) = 9
                · exact .inl ⟨q, x, rfl, .inr h2⟩
                · exact .inr ⟨by rw [← HL.out, trimR_not x q h1 h2], .inr ⟨q, x, rfl, h1, h2⟩⟩
          rcases hend with ⟨q, x, rfl, h⟩ | ⟨rfl, h⟩
          · have H2 := Lib.hid (show Lib.trimRightS q [32, 9] = T by rw [← HL.out, trimR_white x q h])
            clear HL
            have hx0 : ∀ hk, (⟨(q ++ [x]).toArray⟩ : ByteArray)[q.length]'hk = x := fun hk => by
              show (q ++ [x])[q.length]'_ = x
              simp
            rw [List.length_append, List.length_singleton] at hl2
            have e1 : List.take q.length (q ++ [x]) = q := List.take_left
            by_cases h1 : (x.toNat : Int) = 32
            · have h1b : ((x.toNat : Int) == 32) = true := by simpa using h1
              clear h1 h
              go_wp2
              go_round
              case rel => exact ⟨q, by omega, rfl, H2⟩
              case measure => rw [szV_str, szV_str, List.length_append, List.length_singleton]; omega
            · have h1b : ((x.toNat : Int) == 32) = false := by simpa using h1
              have h2b : ((x.toNat : Int) == 9) = true := by simpa using h.resolve_left h1
              clear h1 h
              go_wp2
              go_round
              case rel => exact ⟨q, by omega, rfl, H2⟩
              case measure => rw [szV_str, szV_str, List.length_append, List.length_singleton]; omega
          · clear HL
            rcases h with rfl | ⟨q, x, rfl, h1, h2⟩
            · go_wp2
              go_ret
              exact ⟨rfl, rfl⟩
            · have h1b : ((x.toNat : Int) == 32) = false := by simpa using h1
              have h2b : ((x.toNat : Int) == 9) = false := by simpa using h2
              have hx0 : ∀ hk, (⟨(q ++ [x]).toArray⟩ : ByteArray)[q.length]'hk = x := fun hk => by
                show (q ++ [x])[q.length]'_ = x
                simp
              rw [List.length_append, List.length_singleton] at hl2
              clear h1 h2
              go_wp2
              go_ret
              exact ⟨rfl, rfl⟩
      · have h1b : ((x.toNat : Int) == 32) = false := by simpa using h1
        have h2b : ((x.toNat : Int) == 9) = false := by simpa using h2
        obtain ⟨-, hx0, -⟩ := drop_cons (l := x :: q) (k := 0) (x := x) (r := q) rfl
        clear h1 h2
        have HT2 := Lib.hid HT.out.symm
        go_wp2
        clear HT h1b h2b hx0
        have HBD : (x :: q).length ≤ s.length := hl
        generalize x :: q = L at *
        go_loop [0] (fun t => ∃ l : List UInt8, l.length ≤ s.length ∧ t = .string ⟨l.toArray⟩ ∧ Hid (Lib.trimRightS l [32, 9] = T)) (fun t => szV t)
        case atStart => exact ⟨_, HBD, rfl, HT2⟩
        case round =>
          obtain ⟨l, hl2, rfl, HL⟩ := hrel
          clear HT2 HBD
          have hend : (∃ q x, l = q ++ [x] ∧ ((x.toNat : Int) = 32 ∨ (x.toNat : Int) = 9)) ∨ (T = l ∧ (l = [] ∨ ∃ q x, l = q ++ [x] ∧ ¬ (x.toNat : Int) = 32 ∧ ¬ (x.toNat : Int) = 9)) := by
            rcases last_cases l with rfl | ⟨q, x, rfl⟩
            · exact .inr ⟨HL.out.symm, .inl rfl⟩
            · by_cases h1 : (x.toNat : Int) = 32
              · exact .inl ⟨q, x, rfl, .inl h1⟩
              · by_cases h2 : (x.toNat : Int) = 9
                · exact .inl ⟨q, x, rfl, .inr h2⟩
                · exact .inr ⟨by rw [← HL.out, trimR_not x q h1 h2], .inr ⟨q, x, rfl, h1, h2⟩⟩
          rcases hend with ⟨q, x, rfl, h⟩ | ⟨rfl, h⟩
          · have H2 := Lib.hid (show Lib.trimRightS q [32, 9] = T by rw [← HL.out, trimR_white x q h])
            clear HL
            have hx0 : ∀ hk, (⟨(q ++ [x]).toArray⟩ : ByteArray)[q.length]'hk = x := fun hk => by
              show (q ++ [x])[q.length]'_ = x
              simp
            rw [List.length_append, List.length_singleton] at hl2
            have e1 : List.take q.length (q ++ [x]) = q := List.take_left
            by_cases h1 : (x.toNat : Int) = 32
            · have h1b : ((x.toNat : Int) == 32) = true := by simpa using h1
              clear h1 h
              go_wp2
              go_round
              case rel => exact ⟨q, by omega, rfl, H2⟩
              case measure => rw [szV_str, szV_str, List.length_append, List.length_singleton]; omega
            · have h1b : ((x.toNat : Int) == 32) = false := by simpa using h1
              have h2b : ((x.toNat : Int) == 9) = true := by simpa using h.resolve_left h1
              clear h1 h
              go_wp2
              go_round
              case rel => exact ⟨q, by omega, rfl, H2⟩
              case measure => rw [szV_str, szV_str, List.length_append, List.length_singleton]; omega
          · clear HL
            rcases h with rfl | ⟨q, x, rfl, h1, h2⟩
            · go_wp2
              go_ret
              exact ⟨rfl, rfl⟩
            · have h1b : ((x.toNat : Int) == 32) = false := by simpa using h1
              have h2b : ((x.toNat : Int) == 9) = false := by simpa using h2
              have hx0 : ∀ hk, (⟨(q ++ [x]).toArray⟩ : ByteArray)[q.length]'hk = x := fun hk => by
                show (q ++ [x])[q.length]'_ = x
                simp
              rw [List.length_append, List.length_singleton] at hl2
              clear h1 h2
              go_wp2
              go_ret
              exact ⟨rfl, rfl⟩

theorem digS_last (m : Nat) (h : m / 10 = 0) : digS m = [UInt8.ofNat (48 + m % 10)] := by
  unfold digS digR
  rw [if_pos h]
  rfl
theorem digR_fuel : ∀ (f g n : Nat), n < f → n < g → digR f n = digR g n
  | 0, _, _, h, _ => absurd h (Nat.not_lt_zero _)
  | _ + 1, 0, _, _, h => absurd h (Nat.not_lt_zero _)
  | f + 1, g + 1, n, hf, hg => by
    unfold digR
    by_cases h : n / 10 = 0
    · rw [if_pos h, if_pos h]
    · rw [if_neg h, if_neg h, digR_fuel f g (n / 10) (by omega) (by omega)]
theorem digS_more (m : Nat) (h : m / 10 ≠ 0) : digS m = digS (m / 10) ++ [UInt8.ofNat (48 + m % 10)] := by
  unfold digS
  rw [show digR (m + 1) m = UInt8.ofNat (48 + m % 10) :: digR m (m / 10) by conv => lhs; unfold digR; rw [if_neg h]]
  rw [List.reverse_cons, digR_fuel m (m / 10 + 1) (m / 10) (by omega) (by omega)]
theorem byte_dig (m : Nat) : ((UInt8.ofNat (48 + m % 10)).toNat : Int) = 48 + (m : Int) % 10 := by
  rw [UInt8.toNat_ofNat']; omega
set_option maxHeartbeats 1000000 in
set_option maxRecDepth 100000 in
set_option linter.unusedSimpArgs false in
theorem rdigits_any (n : Nat) (w : World) (hn : n ≤ 1000000000000) :
    Calls Tryz.prog 49 #[.int .i64 n] w (Ret (.string ⟨(digS n).toArray⟩) w) := by
  obtain ⟨D, hD⟩ : ∃ D, digS n = D := ⟨_, rfl⟩
  rw [hD]
  go_enter Tryz.func49, Tryz.ntmps49
  go_wp2
  go_loopw [0, 3] (fun t u wr => ∃ (m : Nat) (s : List UInt8), m + s.length ≤ n ∧ t = .int .i64 m ∧ u = .string ⟨s.toArray⟩ ∧ Hid (digS m ++ s = D) ∧ Below w.heap.size w wr) (fun t _ _ => (intOf t).toNat)
  case atStart => exact ⟨n, [], by simp, rfl, rfl, by rw [List.append_nil]; exact hD, Below.refl _ _⟩
  case round =>
    obtain ⟨m, s, hm, rfl, rfl, HM, hb⟩ := hrel
    clear hD
    have hbd := byte_dig m
    have hb2 : Below w.heap.size w (wr.alloc (.cells #[.int .u8 (UInt8.ofNat (48 + m % 10)).toNat] 5)) := hb.alloc hb.size _
    have hcv := conv_bytes (wr.alloc (.cells #[.int .u8 (UInt8.ofNat (48 + m % 10)).toNat] 5)) (.slice (some ⟨wr.heap.size, 0, none⟩) 1 1) [UInt8.ofNat (48 + m % 10)] (BW.rd (BW.lit wr [UInt8.ofNat (48 + m % 10)]) 1 (Nat.le_refl _) (by unfold maxLen; omega))
    have HM1 : m / 10 = 0 → [UInt8.ofNat (48 + m % 10)] ++ s = D := fun h => by rw [← digS_last m h]; exact HM.out
    have HM2 : m / 10 ≠ 0 → Hid (digS (m / 10) ++ ([UInt8.ofNat (48 + m % 10)] ++ s) = D) := fun h => by show digS (m / 10) ++ ([UInt8.ofNat (48 + m % 10)] ++ s) = D; rw [← List.append_assoc, ← digS_more m h]; exact HM.out
    generalize UInt8.ofNat (48 + m % 10) = c at *
    rw [hbd] at hcv hb2
    clear HM hbd
    have hsl : s.length + 1 ≤ 9223372036854775807 := by omega
    by_cases h0 : m / 10 = 0
    · have h1 := Lib.hid (HM1 h0)
      have h0b : ((m : Int) / 10 == 0) = true := by rw [beq_iff_eq]; omega
      clear HM1 HM2 h0
      go_wp2
      go_ret
      refine ⟨rets h1.out, hb2⟩
    · have h1 := Lib.hid (HM2 h0)
      have h0b : ((m : Int) / 10 == 0) = false := by rw [beq_eq_false_iff_ne]; omega
      have h2 : m / 10 + (s.length + 1) ≤ n := by omega
      have h3 : m / 10 < m := by omega
      clear HM1 HM2 h0
      go_wp2
      go_roundw
      case rel => exact ⟨m / 10, c :: s, by rw [List.length_cons]; exact h2, by go_num, rfl, h1, hb2⟩
      case measure => simp [intOf]; omega
end Go.Proofs.YtlkbfehdiopkbaaGreatDoor

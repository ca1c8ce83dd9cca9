/-
  The walks of cond's reader: between, condition, list. Condition: the reader lies in a block of its own; what it holds is shorter than an int can say.
-/
import Derived.Test.YthfdhanhkanhhaaDoorCondR
import Derived.Test.YthfdhanhkanhhaaDoorStrAny
import Derived.Deep.LoopGhost
import Derived.Deep.QuietTactic
import Derived.BigQuiet
import Derived.OwnWalk
import Derived.Laws.ResultCell
namespace Go.Proofs.YthfdhanhkanhhaaDoor
open Go.RowKit

/-- what strings.Cut hands back at a separator of one byte. -/
def cutV (s : List UInt8) (c : UInt8) : Value :=
  if Lib.indexByte s c < 0 then .tuple #[.string ⟨s.toArray⟩, .string ⟨#[]⟩, .bool false]
  else .tuple #[.string ⟨(s.take (Lib.indexByte s c).toNat).toArray⟩, .string ⟨(s.drop ((Lib.indexByte s c).toNat + 1)).toArray⟩, .bool true]
set_option maxHeartbeats 400000 in
set_option maxRecDepth 100000 in
set_option linter.unusedSimpArgs false in
theorem lcut_any (s : List UInt8) (c : UInt8) (w : World) (hs : s.length ≤ maxLen) :
    Calls Tryd.prog 80 #[.string ⟨s.toArray⟩, .string ⟨#[c]⟩] w (Ret (cutV s c) w) := by
  have hI := Tryd.stringslite_Index_one ⟨s.toArray⟩ c
  have hge := Lib.indexByte_ge s c
  unfold cutV
  have hlt : 0 ≤ Lib.indexByte s c → Lib.indexByte s c < s.length := fun h => by
    obtain ⟨o, ho⟩ := Int.eq_ofNat_of_zero_le h
    have h6 := (List.getElem?_eq_some_iff.1 (Lib.indexByte_some ho).1).1
    omega
  change ∀ w, Calls Tryd.prog _ _ w fun e w' => e = .returned (.int .i64 (Lib.indexByte s c)) ∧ w' = w at hI
  generalize Lib.indexByte s c = i at hge hlt hI
  unfold maxLen at hs
  by_cases hi : i < 0
  · obtain rfl : i = -1 := by omega
    clear hlt hge
    rw [if_pos (by omega)]
    go_enter Tryd.func80, Tryd.ntmps80
    go_wp2_with (refine (hI _).mono ?_; rintro e w1 ⟨rfl, rfl⟩)
    go_ret3
    exact ⟨rfl, Below.refl _ _⟩
  · obtain ⟨n, rfl⟩ := Int.eq_ofNat_of_zero_le (show 0 ≤ i by omega)
    have hn := hlt (by omega)
    clear hlt hge
    rw [if_neg (by omega)]
    have k1 : (n : Int) ≤ s.length := by omega
    have k2 : (n : Int) + 1 ≤ s.length := by omega
    have k3 : (0 : Int) ≤ (n : Int) := by omega
    have k4 : (0 : Int) ≤ (n : Int) + 1 := by omega

    go_enter Tryd.func80, Tryd.ntmps80
    go_wp2_with (refine (hI _).mono ?_; rintro e w1 ⟨rfl, rfl⟩)
    go_quiet (fail)
    go_wp2
    go_ret3
    exact ⟨rfl, below_draws (Below.refl _ _) _⟩
set_option maxHeartbeats 400000 in
set_option maxRecDepth 100000 in
set_option linter.unusedSimpArgs false in
theorem cut_any (s : List UInt8) (c : UInt8) (w : World) (hs : s.length ≤ maxLen) :
    Calls Tryd.prog 66 #[.string ⟨s.toArray⟩, .string ⟨#[c]⟩] w (Ret (cutV s c) w) := by
  have h := lcut_any s c w hs
  unfold cutV at h ⊢
  go_enter Tryd.func66, Tryd.ntmps66
  by_cases hi : Lib.indexByte s c < 0
  · rw [if_pos hi] at h ⊢
    go_wp2_with (refine h.mono ?_; rintro e w1 ⟨rfl, hb⟩)
    go_ret3
    exact ⟨rfl, hb⟩
  · rw [if_neg hi] at h ⊢
    go_wp2_with (refine h.mono ?_; rintro e w1 ⟨rfl, hb⟩)
    go_ret3
    exact ⟨rfl, hb⟩
set_option maxHeartbeats 400000 in
set_option maxRecDepth 100000 in
set_option linter.unusedSimpArgs false in
theorem containsAny_few (l c : List UInt8) (w : World) (hc : ∀ (i : Nat) b, c[i]? = some b → b.toNat < 128) (h2 : c.length ≤ 1) :
    Calls Tryd.prog 55 #[.string ⟨l.toArray⟩, .string ⟨c.toArray⟩] w (Ret (.bool (Lib.containsAny l c)) w) := by
  have h : Calls Tryd.prog 73 #[.string ⟨l.toArray⟩, .string ⟨c.toArray⟩] w (Same0 (.int .i64 (Lib.indexAny l c)) w) := by
    match c, h2 with
    | [], _ => exact (Tryd.strings_IndexAny_none ⟨l.toArray⟩ ⟨#[]⟩ w rfl).mono fun e w' ⟨h1, h2⟩ => ⟨h1, h2.symm⟩
    | [a], _ => exact (Tryd.strings_IndexAny_one ⟨l.toArray⟩ ⟨#[a]⟩ w rfl hc).mono fun e w' ⟨h1, h2⟩ => ⟨h1, h2.symm⟩
  clear hc h2
  go_enter Tryd.func55, Tryd.ntmps55
  go_wp2_with (refine h.mono ?_; rintro e w' ⟨rfl, rfl⟩)
  go_ret
  exact ⟨rfl, Below.refl _ _⟩

def betwV : Option (List UInt8 × List UInt8) → Value
  | some (t, _) => .tuple #[.string ⟨t.toArray⟩, .bool true]
  | none => .tuple #[.string ⟨#[]⟩, .bool false]
def betwR (s : List UInt8) : Option (List UInt8 × List UInt8) → List UInt8
  | some (_, r) => r
  | none => s
def midO (A : Bool) (p : List UInt8 × List UInt8) : Option (List UInt8 × List UInt8) := if A then some p else none
set_option maxHeartbeats 1000000 in
set_option maxRecDepth 100000 in
set_option linter.unusedSimpArgs false in
theorem between_any (r : Nat) (s bad : List UInt8) (e : UInt8) (low : Int) (w : World) (h : Rdr w r s) (hs : s.length ≤ maxLen) (hbad : ∀ (i : Nat) b, bad[i]? = some b → b.toNat < 128) (hb2 : bad.length ≤ 1) :
    Calls Tryd.prog 48 #[.pointer (some ⟨r, 0, none⟩), .string ⟨#[e]⟩, .string ⟨bad.toArray⟩, .int .u8 low] w (RdS (betwV (betwS e bad low s)) r (betwR s (betwS e bad low s)) w) := by
  have H := Lib.hid h
  have hc := h.cell
  have hcut := Lib.hid (cut_any s e w hs)
  clear h
  have hge := Lib.indexByte_ge s e
  have hlt : 0 ≤ Lib.indexByte s e → Lib.indexByte s e < s.length := fun h => by
    obtain ⟨o, ho⟩ := Int.eq_ofNat_of_zero_le h
    have h6 := (List.getElem?_eq_some_iff.1 (Lib.indexByte_some ho).1).1
    omega
  unfold cutV at hcut
  unfold betwS
  generalize Lib.indexByte s e = i at hge hlt hcut
  unfold maxLen at hs
  by_cases hi : i < 0
  · rw [if_pos hi] at hcut
    rw [if_pos (.inl hi)]
    go_enter Tryd.func48, Tryd.ntmps48
    go_wp2_with (refine hcut.out.mono ?_; rintro e w1 ⟨rfl, hb⟩)
    go_ret2
    exact ⟨rfl, H.out.below hb H.out.lt, Below.toGrown hb _⟩
  · rw [if_neg hi] at hcut
    obtain ⟨n, rfl⟩ := Int.eq_ofNat_of_zero_le (show 0 ≤ i by omega)
    have hn := hlt (by omega)
    clear hlt hge hi
    have hl : (s.take n).length = n := by rw [List.length_take]; omega
    have hl2 : (s.drop (n + 1)).length ≤ s.length := by rw [List.length_drop]; omega
    simp only [Int.toNat_natCast] at hcut ⊢
    generalize s.take n = b at hcut hl
    generalize s.drop (n + 1) = rest at hcut hl2
    have hbl : b.length ≤ 9223372036854775807 := by omega
    by_cases h0 : b = []
    · rw [if_pos (.inr (.inl h0))]
      have h0' : b.isEmpty = true := by simpa using h0
      clear h0
      go_enter Tryd.func48, Tryd.ntmps48
      go_wp2_with (refine hcut.out.mono ?_; rintro e w1 ⟨rfl, hb⟩)
      go_ret2
      exact ⟨rfl, H.out.below hb H.out.lt, Below.toGrown hb _⟩
    · have h0' : b.isEmpty = false := by simpa using h0
      have HM := Lib.hid (show midS bad low b = (!Lib.containsAny b bad && b.all fun c => decide (low ≤ (c.toNat : Int) ∧ (c.toNat : Int) ≤ 126)) from rfl)
      have HCt := Lib.hid (fun w => containsAny_few b bad w hbad hb2)
      generalize Lib.containsAny b bad = ct at HM HCt
      generalize hA : (b.all fun c => decide (low ≤ (c.toNat : Int) ∧ (c.toNat : Int) ≤ 126)) = ANS at HM
      cases ct
      · have HG := Lib.hid (show (if (n : Int) < 0 ∨ b = [] ∨ midS bad low b = false then none else some (b, rest)) = midO ANS (b, rest) by
          unfold midO
          have := HM.out
          cases ANS <;> simp [this, h0] <;> omega)
        clear h0 HM
        rw [HG.out]
        clear HG
        go_enter Tryd.func48, Tryd.ntmps48
        go_wp2_with (first | (refine hcut.out.mono ?_; rintro e w1 ⟨rfl, hb⟩) | (refine (HCt.out _).mono ?_; rintro e w2 ⟨rfl, hb2⟩))
        have hbb := hb.trans (hb2.mono hb.size)
        have H2 := Lib.hid (H.out.below hbb H.out.lt)
        have hc2 := H2.out.cell
        have hf2 := H2.out.frozen
        clear hc hcut HCt hb hb2
        go_loop [37] (fun i => ∃ k : Nat, k ≤ b.length ∧ i = .int .i64 k ∧ Hid (((b.drop k).all fun c => decide (low ≤ (c.toNat : Int) ∧ (c.toNat : Int) ≤ 126)) = ANS)) (fun i => b.length - (intOf i).toNat)
        case atStart => exact ⟨0, Nat.zero_le _, rfl, hA⟩
        case round =>
          obtain ⟨k, hk, rfl, HK⟩ := hrel
          clear hA
          rcases hd : b.drop k with _ | ⟨x, q⟩
          · have hk2 : k = b.length := by have := drop_nil hd; omega
            rw [hd] at HK
            obtain rfl : true = ANS := HK.out
            clear hd HK
            have hkk : ¬ ((k : Int) < b.length) := by omega
            go_wp2
            go_ret2
            exact ⟨rfl, H2.out.set, grown_trans (Below.toGrown hbb _) (grown_set _ _ _)⟩
          · obtain ⟨hlt, hx, hq⟩ := drop_cons hd
            rw [hd, List.all_cons] at HK
            have Hq := Lib.hid hq
            clear hd hq
            by_cases hr : low ≤ (x.toNat : Int) ∧ (x.toNat : Int) ≤ 126
            · rw [decide_eq_true hr, Bool.true_and] at HK
              obtain ⟨r1, r2⟩ := hr
              have q1 : ¬ ((x.toNat : Int) < low) := by omega
              have q2 : ¬ (126 < (x.toNat : Int)) := by omega
              go_wp2
              go_round
              case rel => exact ⟨k + 1, by omega, by go_num, by rw [Hq.out]; exact HK.out⟩
              case measure => simp [intOf]; omega
            · rw [decide_eq_false hr, Bool.false_and] at HK
              obtain rfl : false = ANS := HK.out
              clear HK
              by_cases q1 : (x.toNat : Int) < low
              · clear hr
                go_wp2
                go_ret2
                exact ⟨rfl, H2.out, Below.toGrown hbb _⟩
              · have q2 : 126 < (x.toNat : Int) := by omega
                clear hr
                go_wp2
                go_ret2
                exact ⟨rfl, H2.out, Below.toGrown hbb _⟩
      · rw [if_pos (.inr (.inr HM.out))]
        clear h0 HM
        go_enter Tryd.func48, Tryd.ntmps48
        go_wp2_with (first | (refine hcut.out.mono ?_; rintro e w1 ⟨rfl, hb⟩) | (refine (HCt.out _).mono ?_; rintro e w2 ⟨rfl, hb2⟩))
        go_ret2
        have hbb := hb.trans (hb2.mono hb.size)
        exact ⟨rfl, H.out.below hbb H.out.lt, Below.toGrown hbb _⟩
end Go.Proofs.YthfdhanhkanhhaaDoor

/-
  The walk of the reference's Same of two lists of groups that say the same: it returns true. No condition.
-/
import Derived.Test.YthfdhanhkanhhaaDoorCondA
namespace Go.Proofs.YthfdhanhkanhhaaDoor
open Go.RowKit

set_option maxHeartbeats 2000000 in
set_option maxRecDepth 100000 in
set_option linter.unusedSimpArgs false in
theorem rsame16_eq (va vb : Value) (l : List GroupT) (w : World) (ha : Groups w va l) (hb : Groups w vb l) :
    Calls Tryd.prog 24 #[va, vb] w (Ret (.bool true) w) := by
  have Ha := Lib.hid ha
  have Hb := Lib.hid hb
  obtain ⟨A, ca, rfl, hca1, hca, -⟩ := ha
  obtain ⟨B, cb, rfl, hcb1, hcb, -⟩ := hb
  unfold maxLen at hca hcb
  have hl : l.length ≤ 9223372036854775807 := by omega
  have hlz : ((l.length : Int) == (l.length : Int)) = true := by simp
  go_enter Tryd.func24, Tryd.ntmps24
  go_wp2
  go_loopw [5] (fun i wr => ∃ k : Nat, k ≤ l.length ∧ i = .int .i64 k ∧ Below w.heap.size w wr) (fun i _ => l.length - (intOf i).toNat)
  case atStart => exact ⟨0, Nat.zero_le _, rfl, Below.refl _ _⟩
  case round =>
    obtain ⟨k, hk, rfl, hbw⟩ := hrel
    rcases Nat.lt_or_ge k l.length with hlt | hge
    · obtain ⟨A', ca', hva, _, _, hac⟩ := (Ha.out.below hbw (Nat.le_refl _)).at
      obtain ⟨B', cb', hvb, _, _, hbc⟩ := (Hb.out.below hbw (Nat.le_refl _)).at
      injection hva with e1 e2 e3
      injection hvb with f1 f2 f3
      subst e1 e3 f1 f3
      clear e2 f2
      obtain ⟨g, hg⟩ : ∃ g, l[k]? = some g := ⟨_, List.getElem?_eq_getElem hlt⟩
      obtain ⟨b, o, cv, rfl, hb1, e0, e1, e2, hcv⟩ := hac k g hg
      obtain ⟨b', o', cv', rfl, hb2, f0, f1, f2, hcv'⟩ := hbc k g hg
      have Hc := Lib.hid hcv
      have Hc' := Lib.hid hcv'
      obtain ⟨A2, ca2, rfl, -, hcm2, -⟩ := hcv
      obtain ⟨B2, cb2, rfl, -, -, -⟩ := hcv'
      unfold maxLen at hcm2
      unfold str at e1 f1
      obtain ⟨tg, tag, cs⟩ := g
      simp only at e0 e1 e2 f0 f1 f2 Hc Hc' hcm2
      have k0 : (0 : Int) ≤ (k : Int) := by omega
      have k1 : (k : Int) < (l.length : Int) := by omega
      have t1 : (tg == tg) = true := by cases tg <;> rfl
      have t2 : (tag == tag) = true := by simp
      have t3 : ((cs.length : Int) == (cs.length : Int)) = true := by simp
      clear hac hbc hg
      go_wp2
      go_quiet (fail)
      go_wp2
      go_loopw [6] (fun i wi => ∃ m : Nat, m ≤ cs.length ∧ i = .int .i64 m ∧ Below wr.heap.size wr wi) (fun i _ => cs.length - (intOf i).toNat)
      case atStart => exact ⟨0, Nat.zero_le _, rfl, below_draws (Below.refl _ _) _⟩
      case round =>
        obtain ⟨m, hm, rfl, hbi⟩ := hrel
        obtain ⟨A3, ca3, hva3, _, hcm3, hac3⟩ := (Hc.out.below hbi (Nat.le_refl _)).at
        obtain ⟨B3, cb3, hvb3, _, hcn3, hbc3⟩ := (Hc'.out.below hbi (Nat.le_refl _)).at
        injection hva3 with e3 e4 e5
        injection hvb3 with f3 f4 f5
        subst e3 e5 f3 f5
        clear e4 f4
        unfold maxLen at hcm3
        have hb1' := World.block_lt_of_cell? _ _ e2
        have hb2' := World.block_lt_of_cell? _ _ f2
        have g2 := (hbi.cell (p := ⟨b, o + k * 3 + 2, none⟩) hb1').trans e2
        have h2 := (hbi.cell (p := ⟨b', o' + k * 3 + 2, none⟩) hb2').trans f2
        have hbn := hbw.trans (hbi.mono hbw.size)
        have hkl : (k : Int) < l.length := by omega
        clear e0 e1 f0 f1 e2 f2 t1 t2 t3
        rcases Nat.lt_or_ge m cs.length with hltm | hgem
        · obtain ⟨c, hc⟩ : ∃ c, cs[m]? = some c := ⟨_, List.getElem?_eq_getElem hltm⟩
          obtain ⟨b3, o3, rfl, _, d0, d1, d2⟩ := hac3 m c hc
          obtain ⟨b4, o4, rfl, _, q0, q1, q2⟩ := hbc3 m c hc
          obtain ⟨neg, tok, etag⟩ := c
          unfold str at d1 d2 q1 q2
          simp only at d0 d1 d2 q0 q1 q2
          have m0 : (0 : Int) ≤ (m : Int) := by omega
          have m1 : (m : Int) < (cs.length : Int) := by omega
          have t1 : (neg == neg) = true := by cases neg <;> rfl
          have t2 : (tok == tok) = true := by simp
          have t3 : (etag == etag) = true := by simp
          clear hac3 hbc3 hc
          go_wp2
          go_quiet (fail)
          go_wp2
          go_roundw
          case rel => exact ⟨m + 1, by omega, by go_num, below_draws hbi _⟩
          case measure => simp [intOf]; omega
        · have hk2 : m = cs.length := by omega
          subst hk2
          go_wp2
          refine ⟨⟨k + 1, by omega, by go_num, hbn⟩, ?_⟩
          simp [intOf]; omega
    · have hk2 : k = l.length := by omega
      subst hk2
      go_wp2
      go_ret
      exact ⟨rfl, hbw⟩
end Go.Proofs.YthfdhanhkanhhaaDoor

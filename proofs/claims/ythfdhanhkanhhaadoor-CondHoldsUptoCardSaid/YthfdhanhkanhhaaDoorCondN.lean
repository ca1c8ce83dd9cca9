/-
  The walk of the law CondHolds: it returns true. Conditions: the package variables hold what the row lists; tags and conditions are at most a million.
-/
import Derived.Test.YthfdhanhkanhhaaDoorCondF
import Derived.Test.YthfdhanhkanhhaaDoorCondG
namespace Go.Proofs.YthfdhanhkanhhaaDoor
open Go.RowKit

set_option maxHeartbeats 1000000 in
set_option maxRecDepth 100000 in
set_option linter.unusedSimpArgs false in
theorem law_holds (gv sv fv : Value) (gs : List GroupT) (self : List (List UInt8)) (fs : List FactT) (w : World) (hg : Groups w gv gs) (hs : Strs w sv self) (hf : FactL w fv fs) (ht : Tags gs ∧ condsN gs ≤ 1048576) (hE : Env w) :
    Calls Tryd.prog 7 #[gv, sv, fv] w (Ret (.bool true) w) := by
  have HG := Lib.hid hg
  have HS' := Lib.hid hs
  have HF := Lib.hid hf
  have HT := Lib.hid ht
  clear hg hs hf ht
  have H1 := Lib.hid (fun (w1 : World) (hb : Below w.heap.size w w1) => holds_any gv sv fv gs self fs w1 (HG.out.below hb (Nat.le_refl _)) (HS'.out.below hb (Nat.le_refl _)) (HF.out.below hb (Nat.le_refl _)) HT.out.1 (hE.below hb))
  have H2 := Lib.hid (fun (w1 : World) (hb : Below w.heap.size w w1) => rholds_any gv sv fv gs self fs w1 (HG.out.below hb (Nat.le_refl _)) (HS'.out.below hb (Nat.le_refl _)) (HF.out.below hb (Nat.le_refl _)) HT.out.1)
  have hN : condsN gs ≤ 1000000000 := Nat.le_trans HT.out.2 (by omega)
  have H3 := Lib.hid (fun (w1 : World) (hb : Below w.heap.size w w1) => submitted_any gv sv fv gs self fs w1 (HG.out.below hb (Nat.le_refl _)) (HS'.out.below hb (Nat.le_refl _)) (HF.out.below hb (Nat.le_refl _)) HT.out.1 hN (hE.below hb))
  have H4 := Lib.hid (fun (w1 : World) (hb : Below w.heap.size w w1) => rsubmitted_any gv sv fv gs self fs w1 (HG.out.below hb (Nat.le_refl _)) (HS'.out.below hb (Nat.le_refl _)) (HF.out.below hb (Nat.le_refl _)) HT.out.1 hN)
  clear hN
  generalize holdsS gs self fs = x at *
  generalize submitS [] gs self fs = l at *
  go_enter Tryd.func7, Tryd.ntmps7
  go_wp2_with fail
  refine (fixed16_any w hE).mono ?_
  rintro e w1 ⟨rfl, hb1⟩
  go_wp2_with fail
  refine (H1.out _ hb1).mono ?_
  rintro e w2 ⟨rfl, hb2'⟩
  have hb2 := hb1.trans (hb2'.mono hb1.size)
  clear hb2'
  go_wp2_with fail
  refine (H2.out _ hb2).mono ?_
  rintro e w3 ⟨rfl, hb3'⟩
  have hb3 := hb2.trans (hb3'.mono hb2.size)
  clear hb3'
  have hxx : (x == x) = true := by cases x <;> rfl
  go_wp2_with fail
  refine (H3.out _ hb3).mono ?_
  rintro e w4 ⟨v4, rfl, hv4, hb4'⟩
  have hb4 := hb3.trans (hb4'.mono hb3.size)
  clear hb4'
  go_wp2_with fail
  refine (H4.out _ hb4).mono ?_
  rintro e w5 ⟨v5, rfl, hv5, hb5'⟩
  have hv45 := hv4.below hb5' (Nat.le_refl _)
  have hb5 := hb4.trans (hb5'.mono hb4.size)
  clear hb5'
  go_wp2_with fail
  refine (same_any _ _ _ _ _ hv45 hv5).mono ?_
  rw [decide_eq_true rfl]
  rintro e w6 ⟨rfl, hb6⟩
  go_wp2
  go_ret
  exact ⟨rfl, hb5.trans (hb6.mono hb5.size)⟩
end Go.Proofs.YthfdhanhkanhhaaDoor

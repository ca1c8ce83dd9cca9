/-
  The walk of the law UriParses: it returns true. Conditions: the package variables hold what the row lists; the target is at most a million bytes.
-/
import Derived.Test.YthfdhanhkanhhaaDoorUriM
import Derived.Test.YthfdhanhkanhhaaDoorUriLaws
namespace Go.Proofs.YthfdhanhkanhhaaDoor
open Go.RowKit

set_option maxHeartbeats 1000000 in
set_option maxRecDepth 100000 in
set_option linter.unusedSimpArgs false in
theorem law_parses (t : List UInt8) (w : World) (hs : t.length ≤ 1048576) (hE : Env w) :
    Calls Tryd.prog 3 #[.string ⟨t.toArray⟩] w (Ret (.bool true) w) := by
  go_enter Tryd.func3, Tryd.ntmps3
  go_wp2_with fail
  refine (fixed_any w hE).mono ?_
  rintro e w1 ⟨rfl, hb1⟩
  have hE1 := hE.below hb1
  have P1 := Lib.hid (parse_any t w1 hs hE1)
  have P2 := Lib.hid (fun w2 => rparse_any t w2 hs)
  unfold Parsed at P1 P2
  generalize parseS t = R at P1 P2
  obtain ⟨p, d, n⟩ := R
  go_wp2_with fail
  refine P1.out.mono ?_
  rintro e w2 ⟨v2, rfl, hv2, hb2⟩
  have hbb2 := hb1.trans (hb2.mono hb1.size)
  clear hE1 hb1 hE
  go_wp2_with fail
  refine (P2.out w2).mono ?_
  rintro e w3 ⟨v3, rfl, hv3, hb3⟩
  have hv23 := hv2.below hb3 (Nat.le_refl _)
  have hbb3 := hbb2.trans (hb3.mono hbb2.size)
  clear hb3 hbb2 hv2 hb2
  go_wp2_with fail
  refine (same_any _ _ _ _ _ hv23 hv3).mono ?_
  rw [decide_eq_true rfl]
  rintro e w4 ⟨rfl, hb4⟩
  go_wp2
  go_ret
  exact ⟨retb (by simp), hbb3.trans (hb4.mono hbb3.size)⟩
end Go.Proofs.YthfdhanhkanhhaaDoor

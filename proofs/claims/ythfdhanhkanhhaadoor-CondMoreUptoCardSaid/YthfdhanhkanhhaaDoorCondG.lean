/-
  The walk of the laws' own fixed() of layer 16. Condition: the package variables hold what the row lists.
-/
import Derived.Test.YthfdhanhkanhhaaDoorCondQ
import Derived.Test.YthfdhanhkanhhaaDoorCondD
import Derived.Test.YthfdhanhkanhhaaDoorUriM
namespace Go.Proofs.YthfdhanhkanhhaaDoor
open Go.RowKit

def gfix : List GroupT := [⟨false, [], [⟨false, [116, 49], []⟩, ⟨false, [], [34, 51, 34]⟩]⟩, ⟨false, [], [⟨true, [116, 50], []⟩]⟩]
def ffix : List FactT := [⟨[[120]], [34, 51, 34], [[116, 49]]⟩]
theorem cfix1 : headS [40, 60, 116, 49, 62, 32, 91, 34, 51, 34, 93, 41, 32, 40, 78, 111, 116, 32, 60, 116, 50, 62, 41] = some gfix := by decide +kernel
theorem cfix2 : headS [40, 60, 116, 49, 62, 41, 32, 60, 47, 97, 62, 32, 40, 60, 116, 50, 62, 41] = none := by decide +kernel
theorem cfix3 : submitS [] gfix [[120]] ffix = [[116, 49]] := by decide +kernel
theorem cfix4 : holdsS gfix [[120]] ffix = true := by decide +kernel
theorem tags_fix : Tags gfix := fun j g hj => by
  have h := List.mem_of_getElem? hj
  simp [gfix] at h
  rcases h with rfl | rfl <;> simp
theorem parse_ok (s : List UInt8) (gs : List GroupT) (w : World) (hs : s.length ≤ 2000000) (h : headS s = some gs) :
    Calls Tryd.prog 23 #[.string ⟨s.toArray⟩] w fun e w' => ∃ v, e = .returned (.tuple #[v, .int .i64 0]) ∧ Groups w' v gs ∧ Below w.heap.size w w' := by
  have := cparse_any s w hs
  rw [h] at this
  exact this
theorem parse_no (s : List UInt8) (w : World) (hs : s.length ≤ 2000000) (h : headS s = none) :
    Calls Tryd.prog 23 #[.string ⟨s.toArray⟩] w fun e w' => e = .returned (.tuple #[.slice none 0 0, .int .i64 50]) ∧ Below w.heap.size w w' := by
  have := cparse_any s w hs
  rw [h] at this
  exact this
/-- a literal list of one fact, just laid. -/
theorem fact_lit (w : World) (p t : Value) (f : FactT) (b : Nat) (hb : b = w.heap.size) (hp : Strs w p f.path) (ht : Strs w t f.toks) :
    FactL (w.alloc (.cells #[p, .string ⟨f.etag.toArray⟩, t] 43)) (.slice (some ⟨b, 0, none⟩) 1 1) [f] := by
  subst hb
  refine ⟨_, 1, rfl, Nat.le_refl _, by unfold maxLen; omega, fun j x hj => ?_⟩
  cases j with
  | succ j => simp at hj
  | zero =>
    simp at hj
    subst hj
    refine ⟨_, _, rfl, by simp, [p, .string ⟨f.etag.toArray⟩, t], rfl, fun k u hk => ?_, p, t, rfl, hp.alloc _, ht.alloc _⟩
    rw [show 0 + (0 * 3 + k) = k by omega, cell_new]
    simpa using hk
set_option maxHeartbeats 2000000 in
set_option maxRecDepth 100000 in
set_option linter.unusedSimpArgs false in
theorem fixed16_any (w : World) (hE : Env w) : Calls Tryd.prog 18 #[] w (Ret (.bool true) w) := by
  go_enter Tryd.func18, Tryd.ntmps18
  go_wp2_with fail
  have h1 := parse_ok [40, 60, 116, 49, 62, 32, 91, 34, 51, 34, 93, 41, 32, 40, 78, 111, 116, 32, 60, 116, 50, 62, 41] gfix w (by decide) cfix1
  refine h1.mono ?_
  rintro e w1 ⟨v1, rfl, hv1, hb1⟩
  clear h1
  go_wp2_with fail
  have h2 := parse_no [40, 60, 116, 49, 62, 41, 32, 60, 47, 97, 62, 32, 40, 60, 116, 50, 62, 41] w1 (by decide) cfix2
  refine h2.mono ?_
  rintro e w2 ⟨rfl, hb2⟩
  clear h2
  have hv2 := hv1.below hb2 (Nat.le_refl _)
  have hb12 := hb1.trans (hb2.mono hb1.size)
  have hE2 := hE.below hb12
  clear hv1 hb1 hb2 hE
  go_wp2_with fail
  have p1 : Strs ((w2.alloc (.cells (vstrs [[120]]).toArray 9)).alloc (.cells (vstrs [[116, 49]]).toArray 9)) (.slice (some ⟨w2.heap.size, 0, none⟩) 1 1) [[120]] := (strs_lit w2 [[120]] 1 rfl (by omega)).alloc _
  have t1 : Strs ((w2.alloc (.cells (vstrs [[120]]).toArray 9)).alloc (.cells (vstrs [[116, 49]]).toArray 9)) (.slice (some ⟨w2.heap.size + 1, 0, none⟩) 1 1) [[116, 49]] := strs_lit' _ [[116, 49]] 1 _ (by simp) rfl (by omega)
  have hA : Below w2.heap.size w2 ((w2.alloc (.cells (vstrs [[120]]).toArray 9)).alloc (.cells (vstrs [[116, 49]]).toArray 9)) := ((Below.refl _ _).alloc (Nat.le_refl _) _).alloc (by simp) _
  have fl := fact_lit _ (.slice (some ⟨w2.heap.size, 0, none⟩) 1 1) (.slice (some ⟨w2.heap.size + 1, 0, none⟩) 1 1) ⟨[[120]], [34, 51, 34], [[116, 49]]⟩ (w2.heap.size + 1 + 1) (by simp) p1 t1
  have hA2 := (hA.alloc hA.size (.cells #[.slice (some ⟨w2.heap.size, 0, none⟩) 1 1, .string ⟨#[34, 51, 34]⟩, .slice (some ⟨w2.heap.size + 1, 0, none⟩) 1 1] 43))
  have sl := strs_lit' ((((w2.alloc (.cells (vstrs [[120]]).toArray 9)).alloc (.cells (vstrs [[116, 49]]).toArray 9)).alloc (.cells #[.slice (some ⟨w2.heap.size, 0, none⟩) 1 1, .string ⟨#[34, 51, 34]⟩, .slice (some ⟨w2.heap.size + 1, 0, none⟩) 1 1] 43))) [[120]] 1 (w2.heap.size + 1 + 1 + 1) (by simp) rfl (by omega)
  have hA3 := hA2.alloc hA2.size (.cells (vstrs [[120]]).toArray 9)
  have fl3 := fl.below ((Below.refl _ _).alloc (Nat.le_refl _) (.cells (vstrs [[120]]).toArray 9)) (Nat.le_refl _)
  have h3 := submitted_any v1 _ _ gfix [[120]] [⟨[[120]], [34, 51, 34], [[116, 49]]⟩] _ (hv2.below hA3 (Nat.le_refl _)) sl fl3 tags_fix (by decide) (hE2.below hA3)
  have hA3' : Below w2.heap.size w2 ((((w2.alloc (.cells #[.string ⟨#[120]⟩] 9)).alloc (.cells #[.string ⟨#[116, 49]⟩] 9)).alloc (.cells #[.slice (some ⟨w2.heap.size, 0, none⟩) 1 1, .string ⟨#[34, 51, 34]⟩, .slice (some ⟨w2.heap.size + 1, 0, none⟩) 1 1] 43)).alloc (.cells #[.string ⟨#[120]⟩] 9)) := hA3
  refine h3.mono ?_
  rw [show submitS [] gfix [[120]] [⟨[[120]], [34, 51, 34], [[116, 49]]⟩] = [[116, 49]] from cfix3]
  rintro e w3 ⟨v3, rfl, hv3, hb3⟩
  have hb23 : Below w2.heap.size w2 w3 := hA3'.trans (hb3.mono hA3'.size)
  have F3 := Lib.hid (fl3.below hb3 (Nat.le_refl _))
  have G3 := Lib.hid (hv2.below hb23 (Nat.le_refl _))
  have HE3 := hE2.below hb23
  clear p1 t1 hA fl hA2 sl hA3 fl3 h3 hA3' hb3 hv2 hE2
  obtain ⟨A3, c3, rfl, -, -, hc3⟩ := hv3
  obtain ⟨b3, o3, rfl, hb3, hcell3⟩ := hc3 0 [116, 49] rfl
  obtain ⟨A1, c1, hv1, -, -, hc1⟩ := G3.out.at
  replace hv1 : v1 = .slice A1 2 c1 := hv1
  subst hv1
  obtain ⟨b1, o1, cv0, rfl, hb1, -, -, e02, hcv0⟩ := hc1 0 _ rfl
  obtain ⟨b1', o1', cv1, he1, -, -, -, e12, hcv1⟩ := hc1 1 _ rfl
  injection he1 with he1
  injection he1 with hq1 hq2 _
  subst hq1 hq2
  obtain ⟨A4, c4, hv4, -, -, hc4⟩ := hcv0.at
  replace hv4 : cv0 = .slice A4 2 c4 := hv4
  subst hv4
  obtain ⟨b4, o4, rfl, hb4, -, -, e42⟩ := hc4 1 _ rfl
  obtain ⟨A5, c5, hv5, -, -, hc5⟩ := hcv1.at
  replace hv5 : cv1 = .slice A5 1 c5 := hv5
  subst hv5
  obtain ⟨b5, o5, rfl, hb5, e50, -, -⟩ := hc5 0 _ rfl
  simp only [Nat.add_zero, Nat.zero_mul, Nat.one_mul] at hcell3 e02 e12 e42 e50
  clear hc3 hc1 hc4 hc5 hcv0 hcv1
  unfold str at e42
  go_wp2_with fail
  have hA4 : Below w3.heap.size w3 (w3.alloc (.cells (vstrs [[120]]).toArray 9)) := (Below.refl _ _).alloc (Nat.le_refl _) _
  have h4 := holds_any (.slice (some ⟨b1, o1, none⟩) 2 c1) (.slice (some ⟨w3.heap.size, 0, none⟩) 1 1) (.slice (some ⟨w2.heap.size + 1 + 1, 0, none⟩) 1 1) gfix [[120]] [⟨[[120]], [34, 51, 34], [[116, 49]]⟩] _ (G3.out.below hA4 (Nat.le_refl _)) (strs_lit w3 [[120]] 1 rfl (by omega)) (F3.out.below hA4 (Nat.le_refl _)) tags_fix (HE3.below hA4)
  rw [show holdsS gfix [[120]] [⟨[[120]], [34, 51, 34], [[116, 49]]⟩] = true from cfix4] at h4
  have hA4' : Below w3.heap.size w3 (w3.alloc (.cells #[.string ⟨#[120]⟩] 9)) := hA4
  refine h4.mono ?_
  rintro e w5 ⟨rfl, hb5⟩
  have hb35 : Below w3.heap.size w3 w5 := hA4'.trans (hb5.mono hA4'.size)
  have hcell5 := (hb35.cell (p := ⟨b3, o3, none⟩) hb3).trans hcell3
  clear h4 hA4 hA4' hb5 hcell3
  go_wp2
  go_ret
  have hb25 := hb23.trans (hb35.mono hb23.size)
  exact ⟨rfl, hb12.trans (hb25.mono hb12.size)⟩
end Go.Proofs.YthfdhanhkanhhaaDoor

/-
  The walks of the reference's comparison of requests, and of the statements' fixed examples of layer 11. Conditions: what the listed variables hold.
-/
import Derived.Test.YtlkbfehdiopkbaaGreatDoorWireI
namespace Go.Proofs.YtlkbfehdiopkbaaGreatDoor
set_option linter.unusedVariables false
set_option linter.unusedSimpArgs false
open Go.RowKit

def p11 : List UInt8 := [71, 69, 84, 32, 47, 97, 32, 72, 84, 84, 80, 47, 49, 46, 49, 13, 10, 72, 111, 115, 116, 58, 32, 104, 13, 10, 13, 10, 120]
def p10 : List UInt8 := [71, 69, 84, 32, 47, 97, 32, 72, 84, 84, 80, 47, 49, 46, 48, 13, 10]
theorem p11_read : readW p11 = .ok (⟨[71, 69, 84], [47, 97], [⟨[104, 111, 115, 116], [104]⟩], [], false⟩, [120]) := by kernel_rfl
theorem p10_read : readW p10 = .error 505 := by kernel_rfl
set_option maxHeartbeats 1000000 in
set_option maxRecDepth 100000 in
set_option linter.unusedSimpArgs false in
theorem wsame_any (r : ReqT) (hv hu : Value) (w : World) (hh : Hdrs w hv r.hdrs) (hg : Hdrs w hu r.hdrs) :
    Calls Tryz.prog 14 #[reqV r hv, reqV r hu] w (Ret (.bool true) w) := by
  have HH := Lib.hid hh
  have HG := Lib.hid hg
  obtain ⟨A, cap, rfl, hcap, hcm, -⟩ := hh
  obtain ⟨A2, cap2, rfl, hcap2, hcm2, -⟩ := hg
  unfold maxLen at hcm hcm2
  obtain ⟨m, t, hdrs, body, cl⟩ := r
  unfold reqV
  simp only at *
  obtain ⟨c0, c1, c2, c3, c4⟩ := cell5 w (.string ⟨m.toArray⟩) (.string ⟨t.toArray⟩) (.slice A hdrs.length cap) (.string ⟨body.toArray⟩) (.bool cl) 26
  have hA0 : Below w.heap.size w (w.alloc (.cells #[.string ⟨m.toArray⟩, .string ⟨t.toArray⟩, .slice A hdrs.length cap, .string ⟨body.toArray⟩, .bool cl] 26)) := (Below.refl _ w).alloc (Nat.le_refl _) _
  have hsz0 : w.heap.size < (w.alloc (.cells #[.string ⟨m.toArray⟩, .string ⟨t.toArray⟩, .slice A hdrs.length cap, .string ⟨body.toArray⟩, .bool cl] 26)).heap.size := by simp
  have hsz1 : (w.alloc (.cells #[.string ⟨m.toArray⟩, .string ⟨t.toArray⟩, .slice A hdrs.length cap, .string ⟨body.toArray⟩, .bool cl] 26)).heap.size = w.heap.size + 1 := by simp
  obtain ⟨f0, f1, f2, f3, f4⟩ := cell5 (w.alloc (.cells #[.string ⟨m.toArray⟩, .string ⟨t.toArray⟩, .slice A hdrs.length cap, .string ⟨body.toArray⟩, .bool cl] 26)) (.string ⟨m.toArray⟩) (.string ⟨t.toArray⟩) (.slice A2 hdrs.length cap2) (.string ⟨body.toArray⟩) (.bool cl) 26
  have hb1 : Below (w.heap.size + 1) (w.alloc (.cells #[.string ⟨m.toArray⟩, .string ⟨t.toArray⟩, .slice A hdrs.length cap, .string ⟨body.toArray⟩, .bool cl] 26)) ((w.alloc (.cells #[.string ⟨m.toArray⟩, .string ⟨t.toArray⟩, .slice A hdrs.length cap, .string ⟨body.toArray⟩, .bool cl] 26)).alloc (.cells #[.string ⟨m.toArray⟩, .string ⟨t.toArray⟩, .slice A2 hdrs.length cap2, .string ⟨body.toArray⟩, .bool cl] 26)) := (Below.refl _ _).alloc (by simp) _
  rw [hsz1] at f0 f1 f2 f3 f4
  go_enter Tryz.func14, Tryz.ntmps14
  go_wp2_with fail
  generalize (w.alloc (.cells #[.string ⟨m.toArray⟩, .string ⟨t.toArray⟩, .slice A hdrs.length cap, .string ⟨body.toArray⟩, .bool cl] 26)) = wa at *
  generalize (wa.alloc (.cells #[.string ⟨m.toArray⟩, .string ⟨t.toArray⟩, .slice A2 hdrs.length cap2, .string ⟨body.toArray⟩, .bool cl] 26)) = wb at *
  have g1 := (hb1.cell (p := ⟨w.heap.size, 2, none⟩) (Nat.lt_succ_self _)).trans c2
  have hAB : Below w.heap.size w wb := hA0.trans (hb1.mono (Nat.le_succ _))
  have hzb : w.heap.size + 1 < wb.heap.size := World.block_lt_of_cell? wb _ f2
  have HHb := Lib.hid (HH.out.below hAB (Nat.le_refl _))
  have HGb := Lib.hid (HG.out.below hAB (Nat.le_refl _))
  clear c0 c1 c2 c3 c4 f0 f1 f3 f4 hA0 hb1 hsz0 hsz1 HH HG
  go_loopw [5] (fun i wr => ∃ k : Nat, k ≤ hdrs.length ∧ i = .int .i64 k ∧ Below wb.heap.size wb wr) (fun i _ => hdrs.length - (intOf i).toNat)
  case atStart => exact ⟨0, Nat.zero_le _, rfl, Below.refl _ _⟩
  case round =>
    obtain ⟨k, hk, rfl, hb⟩ := hrel
    have d1 := (hb.cell (p := ⟨w.heap.size, 2, none⟩) (by show w.heap.size < _; omega)).trans g1
    have d2 := (hb.cell (p := ⟨w.heap.size + 1, 2, none⟩) hzb).trans f2
    clear g1 f2
    rcases Nat.lt_or_ge k hdrs.length with hlt | hge
    · have hx := List.getElem?_eq_getElem hlt
      generalize hdrs[k] = x at hx
      obtain ⟨A', cap', hva, _, _, hac⟩ := (HHb.out.below hb (Nat.le_refl _)).at
      injection hva with e1 e2 e3
      subst e1 e3
      clear e2
      obtain ⟨b, o, rfl, hbl, e0, e1⟩ := hac k x hx
      obtain ⟨A3, cap3, hva3, _, _, hac3⟩ := (HGb.out.below hb (Nat.le_refl _)).at
      injection hva3 with e5 e6 e7
      subst e5 e7
      clear e6
      obtain ⟨b2, o2, rfl, hbl2, e3, e4⟩ := hac3 k x hx
      clear hx hac hac3
      have k1 : (k : Int) < hdrs.length := by omega
      have k2 : (0 : Int) ≤ k := by omega
      go_wp2
      go_quiet (fail)
      go_wp2
      go_roundw
      case rel => exact ⟨k + 1, by omega, by go_num, below_draws hb _⟩
      case measure => simp [intOf]; omega
    · obtain rfl : k = hdrs.length := by omega
      clear hge hk
      go_wp2
      go_ret
      exact ⟨rfl, hAB.trans (hb.mono hAB.size)⟩
def zq : ReqT := ⟨[], [], [], [], false⟩
set_option maxHeartbeats 1000000 in
set_option maxRecDepth 100000 in
set_option linter.unusedSimpArgs false in
theorem wsame_zero (r : ReqT) (hv hu : Value) (w : World) (hm : r.method ≠ []) (hh : Hdrs w hv zq.hdrs) (hg : Hdrs w hu r.hdrs) : Calls Tryz.prog 14 #[reqV zq hv, reqV r hu] w (Ret (.bool false) w) := by
  obtain ⟨A, cap, rfl, -, -, -⟩ := hh
  obtain ⟨A2, cap2, rfl, -, -, -⟩ := hg
  obtain ⟨m, t, hdrs, body, cl⟩ := r
  unfold reqV zq
  simp only at *
  have hne : ¬ (⟨#[]⟩ : ByteArray) = ⟨m.toArray⟩ := fun e => hm (by
    have := congrArg (fun b : ByteArray => b.data.toList) e
    simpa using this.symm)
  have hB : Below w.heap.size w ((w.alloc (.cells #[.string ⟨#[]⟩, .string ⟨#[]⟩, .slice A 0 cap, .string ⟨#[]⟩, .bool false] 26)).alloc (.cells #[.string ⟨m.toArray⟩, .string ⟨t.toArray⟩, .slice A2 hdrs.length cap2, .string ⟨body.toArray⟩, .bool cl] 26)) :=
    ((Below.refl _ w).alloc (Nat.le_refl _) _).alloc (by simp) _
  go_enter Tryz.func14, Tryz.ntmps14
  go_wp2
  go_ret
  exact ⟨rfl, hB⟩
set_option maxHeartbeats 2000000 in
set_option maxRecDepth 100000 in
set_option linter.unusedSimpArgs false in
theorem fixed11_any (w : World) (hE : Env w) : Calls Tryz.prog 12 #[] w (Ret (.bool true) w) := by
  have HR1 := Lib.hid (wread_any p11 w (by decide) hE)
  have HR2 := Lib.hid (fun w' (h : Below w.heap.size w w') => wread_any p10 w' (by decide) (hE.below h))
  rw [p11_read] at HR1
  rw [p10_read] at HR2
  unfold p11 at HR1
  unfold p10 at HR2
  clear hE
  go_enter Tryz.func12, Tryz.ntmps12
  go_wp2_with fail
  refine HR1.out.mono ?_
  rintro e w1 ⟨hb1, hv, rfl, ho⟩
  clear HR1
  obtain ⟨A, cap, rfl, -, -, hac⟩ := (own_hdrs ho).at
  obtain ⟨b, o, rfl, hbl, e0, e1⟩ := hac 0 ⟨[104, 111, 115, 116], [104]⟩ rfl
  clear hac ho
  simp only [Nat.zero_mul, Nat.add_zero, List.length_cons, List.length_nil] at *
  unfold reqV
  simp only
  obtain ⟨c0, c1, c2, c3, c4⟩ := cell5 w1 (.string ⟨[71, 69, 84].toArray⟩) (.string ⟨[47, 97].toArray⟩) (.slice (some ⟨b, o, none⟩) 1 cap) (.string ⟨[].toArray⟩) (.bool false) 26
  have hba : Below w.heap.size w (w1.alloc (.cells #[.string ⟨[71, 69, 84].toArray⟩, .string ⟨[47, 97].toArray⟩, .slice (some ⟨b, o, none⟩) 1 cap, .string ⟨[].toArray⟩, .bool false] 26)) := hb1.alloc hb1.size _
  have hbb : Below w1.heap.size w1 (w1.alloc (.cells #[.string ⟨[71, 69, 84].toArray⟩, .string ⟨[47, 97].toArray⟩, .slice (some ⟨b, o, none⟩) 1 cap, .string ⟨[].toArray⟩, .bool false] 26)) := (Below.refl _ _).alloc (Nat.le_refl _) _
  replace e0 := (hbb.cell (p := ⟨b, o, none⟩) hbl).trans e0
  replace e1 := (hbb.cell (p := ⟨b, o + 1, none⟩) hbl).trans e1
  have hsz : w1.heap.size < (w1.alloc (.cells #[.string ⟨[71, 69, 84].toArray⟩, .string ⟨[47, 97].toArray⟩, .slice (some ⟨b, o, none⟩) 1 cap, .string ⟨[].toArray⟩, .bool false] 26)).heap.size := by simp
  go_wp2_with fail
  generalize w1.alloc (.cells #[.string ⟨[71, 69, 84].toArray⟩, .string ⟨[47, 97].toArray⟩, .slice (some ⟨b, o, none⟩) 1 cap, .string ⟨[].toArray⟩, .bool false] 26 (0, 0)) = wa at *
  refine (HR2.out wa hba).mono ?_
  rintro e w2 ⟨hb2, rfl⟩
  clear HR2
  have d0 := (hb2.cell (p := ⟨w1.heap.size, 0, none⟩) hsz).trans c0
  have d1 := (hb2.cell (p := ⟨w1.heap.size, 1, none⟩) hsz).trans c1
  have d2 := (hb2.cell (p := ⟨w1.heap.size, 2, none⟩) hsz).trans c2
  have d3 := (hb2.cell (p := ⟨b, o, none⟩) (Nat.lt_trans hbl hsz)).trans e0
  have d4 := (hb2.cell (p := ⟨b, o + 1, none⟩) (Nat.lt_trans hbl hsz)).trans e1
  have hbc := hba.trans (hb2.mono hba.size)
  have hbd : Below w.heap.size w (w2.alloc (.cells #[.string ⟨#[]⟩, .string ⟨#[]⟩, .slice none 0 0, .string ⟨#[]⟩, .bool false] 26)) := hbc.alloc hbc.size _
  have hbe : Below w2.heap.size w2 (w2.alloc (.cells #[.string ⟨#[]⟩, .string ⟨#[]⟩, .slice none 0 0, .string ⟨#[]⟩, .bool false] 26)) := (Below.refl _ _).alloc (Nat.le_refl _) _
  have hs2 : w1.heap.size < w2.heap.size := Nat.lt_of_lt_of_le hsz hb2.size
  unfold zeroQ
  have hs3 : b < w2.heap.size := Nat.lt_trans hbl hs2
  clear c0 c1 c2 c3 c4 e0 e1 hb2 hbc hbe hba hbb hb1
  go_wp2_with fail
  go_ret
  exact ⟨rfl, hbd⟩
end Go.Proofs.YtlkbfehdiopkbaaGreatDoor

/-
  The walk of reply.Write. Conditions: what the listed variables hold; the headers' form is shorter than a thousand million bytes.
-/
import Derived.Test.YtlkbfehdiopkbaaGreatDoorRepI
namespace Go.Proofs.YtlkbfehdiopkbaaGreatDoor
open Go.RowKit

theorem builderAt_below {T e : TypeId} {B b : Nat} {p : Value} {bs : List Value} {w w' : World} (h : Lib.BuilderAt T e B b p bs w) (hb : Below w.heap.size w w') : Lib.BuilderAt T e B b p bs w' := by
  have hlt := h.lt
  obtain ⟨h1, v, h2, h3, h4⟩ := h
  exact ⟨h1, v, (hb.block b hlt).trans h2, World.ownsRow.kept (row := none) h3 ⟨hb.os, hb.tape, hb.output, hb.size, fun k hk _ => hb.block k hk⟩ (by cases v.ownBlock <;> simp), h4⟩
theorem Bld.below {B b : Nat} {l : List UInt8} {w w' : World} (h : Bld B b l w) (hb : Below w.heap.size w w') : Bld B b l w' := by
  rcases h with h | h
  · exact .inl (builderAt_below h hb)
  · exact .inr (builderAt_below h hb)
theorem Hdrs.alloc' {w : World} {v : Value} {l : List HdrT} (h : Hdrs w v l) (o : Obj) : Hdrs (w.alloc o) v l := h.below ((Below.refl w.heap.size w).alloc (Nat.le_refl _) o) (Nat.le_refl _)
set_option maxHeartbeats 2000000 in
set_option maxRecDepth 100000 in
set_option linter.unusedSimpArgs false in
theorem write_any (r : RespT) (hv : Value) (w : World) (hh : Hdrs w hv r.hdrs) (hl : (r.hdrs.flatMap hdrF).length ≤ 1000000000) (hE : Env w) :
    Calls Tryz.prog 21 #[respV r hv] w (Ret (wV (writeS r)) w) := by
  have HH := Lib.hid hh
  obtain ⟨A, cap, rfl, hcap, hcm, -⟩ := hh
  unfold maxLen at hcm
  have HG := Lib.hid (fun w h hE => good_any r (.slice A r.hdrs.length cap) w h (hsmall_of hl) hE)
  have HW0 := Lib.hid (@writeS_no r)
  have HW1 := Lib.hid (fun h => (@writeS_yes r h).trans (by rw [top_up]))
  have HCd := Lib.hid (@good_code r)
  have HBd := Lib.hid (fun h => (@good_parts r h).2.2.1)
  generalize writeS r = WS at *
  generalize goodR r = G at *
  have hup : r.status ∈ codes → (upS r).length ≤ 1000001000 := fun hc => by
    have h1 := codes_len _ hc
    have h2 := codes_dig _ hc
    unfold upS
    simp only [List.length_append, crlf, List.length_cons, List.length_nil]
    omega
  have HUp := Lib.hid hup
  clear hup
  obtain ⟨M, hM⟩ : ∃ M, upS r = M := ⟨_, rfl⟩
  have hM2 := hM
  rw [hM] at HW1 HUp
  unfold upS at hM2
  have HM2 := Lib.hid hM2
  clear hM hM2
  obtain ⟨st, hdrs, body, hd, cl⟩ := r
  unfold respV at *
  simp only at *
  obtain ⟨c0, c1, c2, c3, c4⟩ := cell5 w (.int .i64 st) (.slice A hdrs.length cap) (.string ⟨body.toArray⟩) (.bool hd) (.bool cl) 49
  have hA : Below w.heap.size w (w.alloc (.cells #[.int .i64 st, .slice A hdrs.length cap, .string ⟨body.toArray⟩, .bool hd, .bool cl] 49)) := (Below.refl _ w).alloc (Nat.le_refl _) _
  have hsz : w.heap.size < (w.alloc (.cells #[.int .i64 st, .slice A hdrs.length cap, .string ⟨body.toArray⟩, .bool hd, .bool cl] 49)).heap.size := by simp
  go_enter Tryz.func21, Tryz.ntmps21
  go_wp2_with fail
  generalize (w.alloc (.cells #[.int .i64 st, .slice A hdrs.length cap, .string ⟨body.toArray⟩, .bool hd, .bool cl] 49)) = wa at *
  refine (HG.out _ (HH.out.below hA (Nat.le_refl _)) (hE.below hA)).mono ?_
  rintro e w1 ⟨rfl, hb1⟩
  have d0 := (hb1.cell (p := ⟨w.heap.size, 0, none⟩) hsz).trans c0
  have d1 := (hb1.cell (p := ⟨w.heap.size, 1, none⟩) hsz).trans c1
  have d2 := (hb1.cell (p := ⟨w.heap.size, 2, none⟩) hsz).trans c2
  have d3 := (hb1.cell (p := ⟨w.heap.size, 3, none⟩) hsz).trans c3
  have d4 := (hb1.cell (p := ⟨w.heap.size, 4, none⟩) hsz).trans c4
  have hA1 : Below w.heap.size w w1 := hA.trans (hb1.mono hA.size)
  have hsz1 : w.heap.size < w1.heap.size := Nat.lt_of_lt_of_le hsz hb1.size
  clear c0 c1 c2 c3 c4 HG hA hb1 hsz
  cases G
  · have HW := Lib.hid (HW0.out rfl)
    clear HW0 HW1 HCd HBd HUp HM2
    go_wp2
    go_ret2
    refine ⟨?_, hA1⟩
    rw [HW.out]
    rfl
  · have HW := Lib.hid (HW1.out rfl)
    have hbl := HBd.out rfl
    have hc := HCd.out rfl
    have hup := HUp.out hc
    have hd3 := (codes_dig _ hc).1
    have hr3 := codes_len _ hc
    obtain ⟨hst0, hst1⟩ := codes_pos _ hc
    obtain ⟨sn, rfl⟩ := Int.eq_ofNat_of_zero_le (show 0 ≤ st by omega)
    rw [Int.toNat_natCast] at hd3 HM2
    have HIt := Lib.hid (fun w hE => itoa_any sn w (by omega) (by omega) hE)
    rw [digS_itoa] at HIt
    have HRs := Lib.hid (reason_any sn)
    have HE1 := Lib.hid (hE.below hA1)
    have hdn := digS_len body.length (by omega)
    unfold lenF at HW
    have HIn := Lib.hid (fun w hE => itoa_any body.length w (by omega) (by omega) hE)
    rw [digS_itoa] at HIn
    generalize digS sn = D at *
    generalize reasonS sn = R at *
    generalize digS body.length = DN at *
    have s1 : ¬ 9223372036854775807 < 9 + D.length := by omega
    have s2 : ¬ 9223372036854775807 < D.length + 1 + 1 + 1 + 1 + 1 + 1 + 1 + 1 + 1 + 1 := by omega
    have s3 : ¬ 9223372036854775807 < D.length + 1 + 1 + 1 + 1 + 1 + 1 + 1 + 1 + 1 + 1 + R.length := by omega
    have s4 : ¬ 9223372036854775807 < D.length + (R.length + 1) + 1 + 1 + 1 + 1 + 1 + 1 + 1 + 1 + 1 + 2 := by omega
    have hP0 : (72 :: 84 :: 84 :: 80 :: 47 :: 49 :: 46 :: 49 :: 32 :: (D ++ 32 :: (R ++ [13, 10]))).length ≤ 1000 := by simp; omega
    have HP0 := Lib.hid hP0
    have HP : Hid ((72 :: 84 :: 84 :: 80 :: 47 :: 49 :: 46 :: 49 :: 32 :: (D ++ 32 :: (R ++ [13, 10]))) ++ hdrs.flatMap hdrF = M) := Lib.hid (by have := HM2.out; simpa [crlf] using this)
    clear HW0 HW1 HCd HBd HUp HM2 hc hd3 hr3 hP0
    have hB0 := Lib.hid (Bld.fresh w1)
    have hb0 : Below w1.heap.size w1 (w1.alloc (.cells #[.pointer none, .slice none 0 0] 75)) := (Below.refl _ _).alloc (Nat.le_refl _) _
    have k0 := cell_alloc d0 (.cells #[.pointer none, .slice none 0 0] 75)
    have k1 := Lib.hid (cell_alloc d1 (.cells #[.pointer none, .slice none 0 0] 75))
    have k2 := Lib.hid (cell_alloc d2 (.cells #[.pointer none, .slice none 0 0] 75))
    have k3 := Lib.hid (cell_alloc d3 (.cells #[.pointer none, .slice none 0 0] 75))
    have k4 := Lib.hid (cell_alloc d4 (.cells #[.pointer none, .slice none 0 0] 75))
    clear d1 d2 d3 d4
    obtain ⟨B, hB⟩ : ∃ B, B = w1.heap.size := ⟨_, rfl⟩
    have hBs : B ≤ (w1.alloc (.cells #[.pointer none, .slice none 0 0] 75)).heap.size := by simp; omega
    rw [← hB] at hb0 hB0
    rw [← hB] at hsz1
    have hA2 := hA1.trans (hb0.mono (Nat.le_of_lt hsz1))
    have hk0 := Lib.hid k0
    have HB := Lib.hid hB
    clear hB
    go_wp2_with fail
    rw [← HB.out]
    generalize (w1.alloc (.cells #[.pointer none, .slice none 0 0] 75)) = w2 at *
    have hS0 : w2.drew.cell? ⟨w.heap.size, 0, none⟩ = some (.int .i64 sn) ∧ Below B w2 w2.drew := ⟨k0, below_draws (Below.refl _ _) 1⟩
    have HE2 := Lib.hid (HE1.out.below (HB.out ▸ hb0))
    have Hk := Lib.hid (fun (wx wy : World) (h : wx.cell? ⟨w.heap.size, 0, none⟩ = some (.int .i64 sn) ∧ Below B w2 wx) (hb : Below B wx wy) =>
      (⟨(hb.cell (p := ⟨w.heap.size, 0, none⟩) hsz1).trans h.1, h.2.trans hb⟩ : wy.cell? ⟨w.heap.size, 0, none⟩ = some (.int .i64 sn) ∧ Below B w2 wy))
    have HIa := Lib.hid (HIt.out w2.drew (HE2.out.below (below_draws (Below.refl _ _) 1)))
    have HBd := Lib.hid (fun (w' : World) (h : Below w2.drew.heap.size w2.drew w') => Bld.below (show Bld B B [] w2.drew from hB0.out) h)
    have HBm := Lib.hid (fun (w' : World) (h : Below w2.drew.heap.size w2.drew w') => h.mono (show B ≤ w2.drew.heap.size from hBs))
    have HWr := Lib.hid (fun w' (h : Bld B B [] w') => writeString_any B B [] (72 :: 84 :: 84 :: 80 :: 47 :: 49 :: 46 :: 49 :: 32 :: (D ++ 32 :: (R ++ [13, 10]))) w' h (by have := HP0.out; simp only [List.length_nil]; omega))
    clear k0 hB0 d0
    go_region_held3 (fun w' => w'.cell? ⟨w.heap.size, 0, none⟩ = some (.int .i64 sn) ∧ Below B w2 w')
      (first | exact hS0 | assumption | exact Hk.out _ _ (by assumption) (by assumption))
      (first
        | (go_at_call 36; refine HIa.out.mono ?_; rintro e w' ⟨rfl, hb1⟩; have hq1 := HBm.out _ hb1; have hq2 := HBd.out _ hb1; clear hb1)
        | (go_at_call 25; refine (HRs.out _).mono ?_; rintro e w'' ⟨rfl, rfl⟩)
        | (go_at_call 35; refine (HWr.out _ (by assumption)).mono ?_; rintro e w3 ⟨rfl, hb3, hb4⟩))
    have hfin : w3.cell? ⟨w.heap.size, 0, none⟩ = some (.int .i64 sn) ∧ Below B w2 w3 := by assumption
    obtain ⟨m0, hb5⟩ := hfin
    have m1 := (hb5.cell (p := ⟨w.heap.size, 1, none⟩) hsz1).trans k1.out
    have HB3 := Lib.hid hb3
    clear hb3 hS0 Hk HIa HBd HBm HWr hq1 hq2 hb4 HIt HRs s1 s2 s3 s4
    rw [List.nil_append] at HB3
    generalize (72 :: 84 :: 84 :: 80 :: 47 :: 49 :: 46 :: 49 :: 32 :: (D ++ 32 :: (R ++ [13, 10]))) = P0 at *
    go_wp2
    clear m0 m1
    have HE3 := Lib.hid (fun (wx : World) (h : Below B w2 wx) => hE.below (hA2.trans (h.mono (Nat.le_of_lt hsz1))))
    have C0 := Lib.hid (fun (wx : World) (h : Below B w2 wx) => (h.cell (p := ⟨w.heap.size, 0, none⟩) hsz1).trans hk0.out)
    have C2 := Lib.hid (fun (wx : World) (h : Below B w2 wx) => (h.cell (p := ⟨w.heap.size, 2, none⟩) hsz1).trans k2.out)
    have C3 := Lib.hid (fun (wx : World) (h : Below B w2 wx) => (h.cell (p := ⟨w.heap.size, 3, none⟩) hsz1).trans k3.out)
    have C4 := Lib.hid (fun (wx : World) (h : Below B w2 wx) => (h.cell (p := ⟨w.heap.size, 4, none⟩) hsz1).trans k4.out)
    have HBB := Lib.hid (Nat.le_of_lt hsz1)
    clear hk0 k1 k2 k3 k4 HB
    go_loopw [24] (fun i wr => ∃ (k : Nat) (acc : List UInt8), k ≤ hdrs.length ∧ i = .int .i64 k ∧ Bld B B acc wr ∧ Hid (acc ++ (hdrs.drop k).flatMap hdrF = M) ∧ Below B w2 wr) (fun i _ => hdrs.length - (intOf i).toNat)
    case atStart => exact ⟨0, P0, Nat.zero_le _, rfl, HB3.out, HP, hb5⟩
    case round =>
      obtain ⟨k, acc, hk, rfl, hbl', HK, hb⟩ := hrel
      have HBr := Lib.hid hbl'
      have hBr : B ≤ wr.heap.size := Nat.le_of_lt hbl'.lt.2
      have hAr : Below w.heap.size w wr := hA2.trans (hb.mono HBB.out)
      clear HP hb5 HB3 hbl'
      rcases hd' : hdrs.drop k with _ | ⟨x, q⟩
      · have hk2 : k = hdrs.length := by have := drop_nil hd'; omega
        rw [hd'] at HK
        obtain rfl : acc = M := by have := HK.out; simpa using this
        clear hd' HK
        subst hk2
        have q0 := C0.out _ hb
        have HBa := HBr
        have hba := hb
        by_cases h2 : (sn : Int) = 204
        · rw [if_pos h2] at HW
          have b2 : ((sn : Int) == 204) = true := by simpa using h2
          have b2' : ((sn : Int) != 204) = false := by simpa using h2
          clear h2
          have q4 := C4.out _ hba
          cases cl
          · go_wp2_with fail
            refine (writeString_any B B _ _ _ HBa.out ?_).mono ?_
            · simp only [List.length_append, List.length_cons, List.length_nil]; omega
            rintro e we ⟨rfl, hBe, hbe'⟩
            have HBe := Lib.hid hBe
            have hbe := hba.trans hbe'
            clear hBe hbe'
            have q3 := C3.out _ hbe
            have q2 := C2.out _ hbe
            cases hd
            · go_wp2_with fail
              refine (writeString_any B B _ _ _ HBe.out ?_).mono ?_
              · simp only [List.length_append, List.length_cons, List.length_nil]; omega
              rintro e wf ⟨rfl, hBf, hbf'⟩
              have HBf := Lib.hid hBf
              have hbf := hbe.trans hbf'
              clear hBf hbf'
              go_wp2_with fail
              refine (builderString_any B B _ _ HBf.out).mono ?_
              rintro e wz ⟨rfl, hbz⟩
              go_wp2
              go_ret2
              refine ⟨?_, (hA2.trans (hbf.mono HBB.out)).trans (hbz.mono HBB.out)⟩
              rw [HW.out]
              exact congrArg (fun l : List UInt8 => Ending.returned (.tuple #[.string ⟨l.toArray⟩, .int .i64 0])) (by simp [crlf, closeF])
            · go_wp2_with fail
              refine (builderString_any B B _ _ HBe.out).mono ?_
              rintro e wz ⟨rfl, hbz⟩
              go_wp2
              go_ret2
              refine ⟨?_, (hA2.trans (hbe.mono HBB.out)).trans (hbz.mono HBB.out)⟩
              rw [HW.out]
              exact congrArg (fun l : List UInt8 => Ending.returned (.tuple #[.string ⟨l.toArray⟩, .int .i64 0])) (by simp [crlf, closeF])
          · go_wp2_with fail
            refine (writeString_any B B _ _ _ HBa.out ?_).mono ?_
            · simp only [List.length_append, List.length_cons, List.length_nil]; omega
            rintro e wd ⟨rfl, hBd, hbd'⟩
            have HBd := Lib.hid hBd
            have hbd := hba.trans hbd'
            clear hBd hbd'
            go_wp2_with fail
            refine (writeString_any B B _ _ _ HBd.out ?_).mono ?_
            · simp only [List.length_append, List.length_cons, List.length_nil]; omega
            rintro e we ⟨rfl, hBe, hbe'⟩
            have HBe := Lib.hid hBe
            have hbe := hbd.trans hbe'
            clear hBe hbe'
            have q3 := C3.out _ hbe
            have q2 := C2.out _ hbe
            cases hd
            · go_wp2_with fail
              refine (writeString_any B B _ _ _ HBe.out ?_).mono ?_
              · simp only [List.length_append, List.length_cons, List.length_nil]; omega
              rintro e wf ⟨rfl, hBf, hbf'⟩
              have HBf := Lib.hid hBf
              have hbf := hbe.trans hbf'
              clear hBf hbf'
              go_wp2_with fail
              refine (builderString_any B B _ _ HBf.out).mono ?_
              rintro e wz ⟨rfl, hbz⟩
              go_wp2
              go_ret2
              refine ⟨?_, (hA2.trans (hbf.mono HBB.out)).trans (hbz.mono HBB.out)⟩
              rw [HW.out]
              exact congrArg (fun l : List UInt8 => Ending.returned (.tuple #[.string ⟨l.toArray⟩, .int .i64 0])) (by simp [crlf, closeF])
            · go_wp2_with fail
              refine (builderString_any B B _ _ HBe.out).mono ?_
              rintro e wz ⟨rfl, hbz⟩
              go_wp2
              go_ret2
              refine ⟨?_, (hA2.trans (hbe.mono HBB.out)).trans (hbz.mono HBB.out)⟩
              rw [HW.out]
              exact congrArg (fun l : List UInt8 => Ending.returned (.tuple #[.string ⟨l.toArray⟩, .int .i64 0])) (by simp [crlf, closeF])
        · rw [if_neg h2] at HW
          have b2 : ((sn : Int) == 204) = false := by simpa using h2
          have b2' : ((sn : Int) != 204) = true := by simpa using h2
          clear h2
          have q2 := C2.out _ hb
          go_wp2_with fail
          refine (HIn.out wr (HE3.out _ hb)).mono ?_
          rintro e wb ⟨rfl, hbb'⟩
          have HBb := Lib.hid (HBr.out.below hbb')
          have hbb := hb.trans (hbb'.mono hBr)
          clear hbb' q2
          go_wp2_with fail
          refine (writeString_any B B _ _ _ HBb.out ?_).mono ?_
          · simp only [List.length_append, List.length_cons, List.length_nil]; omega
          rintro e wc ⟨rfl, hBc, hbc'⟩
          have HBc := Lib.hid hBc
          have hbc := hbb.trans hbc'
          clear hBc hbc'
          have q4 := C4.out _ hbc
          cases cl
          · go_wp2_with fail
            refine (writeString_any B B _ _ _ HBc.out ?_).mono ?_
            · simp only [List.length_append, List.length_cons, List.length_nil]; omega
            rintro e we ⟨rfl, hBe, hbe'⟩
            have HBe := Lib.hid hBe
            have hbe := hbc.trans hbe'
            clear hBe hbe'
            have q3 := C3.out _ hbe
            have q2 := C2.out _ hbe
            cases hd
            · go_wp2_with fail
              refine (writeString_any B B _ _ _ HBe.out ?_).mono ?_
              · simp only [List.length_append, List.length_cons, List.length_nil]; omega
              rintro e wf ⟨rfl, hBf, hbf'⟩
              have HBf := Lib.hid hBf
              have hbf := hbe.trans hbf'
              clear hBf hbf'
              go_wp2_with fail
              refine (builderString_any B B _ _ HBf.out).mono ?_
              rintro e wz ⟨rfl, hbz⟩
              go_wp2
              go_ret2
              refine ⟨?_, (hA2.trans (hbf.mono HBB.out)).trans (hbz.mono HBB.out)⟩
              rw [HW.out]
              exact congrArg (fun l : List UInt8 => Ending.returned (.tuple #[.string ⟨l.toArray⟩, .int .i64 0])) (by simp [crlf, closeF])
            · go_wp2_with fail
              refine (builderString_any B B _ _ HBe.out).mono ?_
              rintro e wz ⟨rfl, hbz⟩
              go_wp2
              go_ret2
              refine ⟨?_, (hA2.trans (hbe.mono HBB.out)).trans (hbz.mono HBB.out)⟩
              rw [HW.out]
              exact congrArg (fun l : List UInt8 => Ending.returned (.tuple #[.string ⟨l.toArray⟩, .int .i64 0])) (by simp [crlf, closeF])
          · go_wp2_with fail
            refine (writeString_any B B _ _ _ HBc.out ?_).mono ?_
            · simp only [List.length_append, List.length_cons, List.length_nil]; omega
            rintro e wd ⟨rfl, hBd, hbd'⟩
            have HBd := Lib.hid hBd
            have hbd := hbc.trans hbd'
            clear hBd hbd'
            go_wp2_with fail
            refine (writeString_any B B _ _ _ HBd.out ?_).mono ?_
            · simp only [List.length_append, List.length_cons, List.length_nil]; omega
            rintro e we ⟨rfl, hBe, hbe'⟩
            have HBe := Lib.hid hBe
            have hbe := hbd.trans hbe'
            clear hBe hbe'
            have q3 := C3.out _ hbe
            have q2 := C2.out _ hbe
            cases hd
            · go_wp2_with fail
              refine (writeString_any B B _ _ _ HBe.out ?_).mono ?_
              · simp only [List.length_append, List.length_cons, List.length_nil]; omega
              rintro e wf ⟨rfl, hBf, hbf'⟩
              have HBf := Lib.hid hBf
              have hbf := hbe.trans hbf'
              clear hBf hbf'
              go_wp2_with fail
              refine (builderString_any B B _ _ HBf.out).mono ?_
              rintro e wz ⟨rfl, hbz⟩
              go_wp2
              go_ret2
              refine ⟨?_, (hA2.trans (hbf.mono HBB.out)).trans (hbz.mono HBB.out)⟩
              rw [HW.out]
              exact congrArg (fun l : List UInt8 => Ending.returned (.tuple #[.string ⟨l.toArray⟩, .int .i64 0])) (by simp [crlf, closeF])
            · go_wp2_with fail
              refine (builderString_any B B _ _ HBe.out).mono ?_
              rintro e wz ⟨rfl, hbz⟩
              go_wp2
              go_ret2
              refine ⟨?_, (hA2.trans (hbe.mono HBB.out)).trans (hbz.mono HBB.out)⟩
              rw [HW.out]
              exact congrArg (fun l : List UInt8 => Ending.returned (.tuple #[.string ⟨l.toArray⟩, .int .i64 0])) (by simp [crlf, closeF])
      · obtain ⟨hlt, hx, hr⟩ := drop_consA hd'
        obtain ⟨A', cap', hva, _, _, hac⟩ := (HH.out.below hAr (Nat.le_refl _)).at
        injection hva with e1 e2 e3
        subst e1 e3
        clear e2
        obtain ⟨b, o, rfl, hbl, e0, e1⟩ := hac k x hx
        rw [hd', List.flatMap_cons] at HK
        have Hr := Lib.hid hr
        clear hd' hr hx hac
        obtain ⟨nm, vl⟩ := x
        simp only at e0 e1
        have HK2 : Hid ((acc ++ (nm ++ 58 :: 32 :: (vl ++ [13, 10]))) ++ q.flatMap hdrF = M) := Lib.hid (by have := HK.out; rw [← List.append_assoc] at this; exact this)
        have hlen : acc.length + nm.length + vl.length + 4 ≤ 1000001000 := by
          have := congrArg List.length HK2.out
          simp only [List.length_append, List.length_cons, List.length_nil] at this
          omega
        clear HK
        obtain ⟨f0, f1⟩ := cell2 wr (.string ⟨nm.toArray⟩) (.string ⟨vl.toArray⟩) 38
        have hbc : Below wr.heap.size wr (wr.alloc (.cells #[.string ⟨nm.toArray⟩, .string ⟨vl.toArray⟩] 38)) := (Below.refl _ _).alloc (Nat.le_refl _) _
        have HBc := Lib.hid (HBr.out.below hbc)
        have hbc2 := hb.trans (hbc.mono hBr)
        go_wp2_with fail
        refine (writeString_any B B _ _ _ HBc.out ?_).mono ?_
        · simp only [List.length_append, List.length_cons, List.length_nil]; omega
        rintro e w5 ⟨rfl, hB5, hb5⟩
        go_wp2
        go_roundw
        case rel => exact ⟨k + 1, _, by omega, by go_num, hB5, by rw [Hr.out]; exact HK2, hbc2.trans hb5⟩
        case measure => simp [intOf]; omega
end Go.Proofs.YtlkbfehdiopkbaaGreatDoor

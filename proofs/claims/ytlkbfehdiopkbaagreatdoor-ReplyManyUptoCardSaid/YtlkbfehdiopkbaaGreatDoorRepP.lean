/-
  The walk of ReplyReads: the law returns true. Conditions: what the listed variables hold; the text is shorter than a hundred million bytes.
-/
import Derived.Test.YtlkbfehdiopkbaaGreatDoorRepN
namespace Go.Proofs.YtlkbfehdiopkbaaGreatDoor
open Go.RowKit

theorem flat_top (r : RespT) (n : Nat) : (r.hdrs.flatMap hdrF).length ≤ (topS r n).length := by
  rw [top_up]
  unfold upS
  simp only [List.length_append]
  omega
theorem flat_form (r : RespT) : (r.hdrs.flatMap hdrF).length ≤ (formR r).length := by
  have := flat_top r r.body.length
  unfold formR
  rw [List.length_append]
  omega
def zeroR : RespT := ⟨0, [], [], false, false⟩
theorem zero_same (w : World) : Calls Tryz.prog 28 #[.agg #[.int .i64 0, .slice none 0 0, .string ⟨#[]⟩, .bool false, .bool false], .agg #[.int .i64 0, .slice none 0 0, .string ⟨#[]⟩, .bool false, .bool false]] w (Ret (.bool true) w) :=
  rsame_any zeroR (.slice none 0 0) (.slice none 0 0) w (Hdrs.nil w) (Hdrs.nil w)
theorem least {p : Nat → Prop} [DecidablePred p] : ∀ m : Nat, p m → ∃ k, k ≤ m ∧ p k ∧ ∀ j, j < k → ¬ p j
  | 0, h => ⟨0, Nat.le_refl _, h, fun j hj => absurd hj (Nat.not_lt_zero _)⟩
  | m + 1, h => by
    by_cases hx : ∃ j, j ≤ m ∧ p j
    · obtain ⟨j, hj, hp⟩ := hx
      have : ∃ k, k ≤ j ∧ p k ∧ ∀ i, i < k → ¬ p i := by
        induction j using Nat.strongRecOn with
        | ind j ih =>
          by_cases hy : ∃ i, i < j ∧ p i
          · obtain ⟨i, hi, hpi⟩ := hy
            obtain ⟨k, h1, h2, h3⟩ := ih i hi (by omega) hpi
            exact ⟨k, by omega, h2, h3⟩
          · exact ⟨j, Nat.le_refl _, hp, fun i hi hpi => hy ⟨i, hi, hpi⟩⟩
      obtain ⟨k, h1, h2, h3⟩ := this
      exact ⟨k, by omega, h2, h3⟩
    · exact ⟨m + 1, Nat.le_refl _, h, fun j hj hpj => hx ⟨j, by omega, hpj⟩⟩
/-- a response that lies in block b of a world. -/
structure InB (w : World) (b : Nat) (wx : World) (st : Int) (A : Option Addr) (hdrs : List HdrT) (cap : Nat) (body : List UInt8) (hd cl : Bool) : Prop where
  lt : b < wx.heap.size
  c0 : wx.cell? ⟨b, 0, none⟩ = some (.int .i64 st)
  c1 : wx.cell? ⟨b, 1, none⟩ = some (.slice A hdrs.length cap)
  c2 : wx.cell? ⟨b, 2, none⟩ = some (.string ⟨body.toArray⟩)
  c3 : wx.cell? ⟨b, 3, none⟩ = some (.bool hd)
  c4 : wx.cell? ⟨b, 4, none⟩ = some (.bool cl)
  hh : Hdrs wx (.slice A hdrs.length cap) hdrs
  bel : Below w.heap.size w wx
theorem InB.mk' {w w2 : World} {st : Int} {A : Option Addr} {hdrs : List HdrT} {cap : Nat} {body : List UInt8} {hd cl : Bool} (hA : Below w.heap.size w w2) (hh : Hdrs w2 (.slice A hdrs.length cap) hdrs) :
    InB w w2.heap.size (w2.alloc (.cells #[.int .i64 st, .slice A hdrs.length cap, .string ⟨body.toArray⟩, .bool hd, .bool cl] 49)) st A hdrs cap body hd cl := by
  obtain ⟨c0, c1, c2, c3, c4⟩ := cell5 w2 (.int .i64 st) (.slice A hdrs.length cap) (.string ⟨body.toArray⟩) (.bool hd) (.bool cl) 49
  exact ⟨by simp, c0, c1, c2, c3, c4, hh.alloc' _, hA.alloc hA.size _⟩
theorem InB.keep {w wx wy : World} {b : Nat} {st : Int} {A : Option Addr} {hdrs : List HdrT} {cap : Nat} {body : List UInt8} {hd cl : Bool} (h : InB w b wx st A hdrs cap body hd cl) (hb : Below wx.heap.size wx wy) : InB w b wy st A hdrs cap body hd cl :=
  ⟨Nat.lt_of_lt_of_le h.lt hb.size, (hb.cell (p := ⟨b, 0, none⟩) h.lt).trans h.c0, (hb.cell (p := ⟨b, 1, none⟩) h.lt).trans h.c1, (hb.cell (p := ⟨b, 2, none⟩) h.lt).trans h.c2, (hb.cell (p := ⟨b, 3, none⟩) h.lt).trans h.c3, (hb.cell (p := ⟨b, 4, none⟩) h.lt).trans h.c4, h.hh.below hb (Nat.le_refl _), h.bel.trans (hb.mono h.bel.size)⟩
set_option maxHeartbeats 2000000 in
set_option maxRecDepth 100000 in
set_option linter.unusedSimpArgs false in
theorem law_reads (buf : List UInt8) (head : Bool) (w : World) (hb : buf.length ≤ 100000000) (hE : Env w) :
    Calls Tryz.prog 9 #[.string ⟨buf.toArray⟩, .bool head] w (Ret (.bool true) w) := by
  have HE := Lib.hid hE
  have HFx := Lib.hid (fixed12_any w hE)
  have HRd := Lib.hid (fun w' (h : Below w.heap.size w w') => read_any buf head w' hb (hE.below h))
  have HZ := Lib.hid zero_same
  rcases hx : readR stS buf head with _ | ⟨r, k⟩
  · rw [hx] at HRd
    clear hx
    go_enter Tryz.func9, Tryz.ntmps9
    go_wp2_with fail
    refine HFx.out.mono ?_
    rintro e w1 ⟨rfl, hb1⟩
    go_wp2_with fail
    refine (HRd.out w1 hb1).mono ?_
    rintro e w2 ⟨hb2, rfl⟩
    have hA2 := hb1.trans (hb2.mono hb1.size)
    clear hb1 hb2
    unfold zeroV
    obtain ⟨c0, c1, c2, c3, c4⟩ := cell5 w2 (.int .i64 0) (.slice none 0 0) (.string ⟨#[]⟩) (.bool false) (.bool false) 49
    have hA3 : Below w.heap.size w (w2.alloc (.cells #[.int .i64 0, .slice none 0 0, .string ⟨#[]⟩, .bool false, .bool false] 49)) := hA2.alloc hA2.size _
    go_wp2_with fail
    refine (HZ.out _).mono ?_
    rintro e w3 ⟨rfl, hb3⟩
    clear c0 c1 c2 c3 c4
    go_wp2
    go_ret
    exact ⟨rfl, hA3.trans (hb3.mono hA3.size)⟩
  · rw [hx] at HRd
    cases head
    · obtain ⟨h1, h2, h3, h4, h5⟩ := read_whole hx
      clear hx
      have hfl : (r.hdrs.flatMap hdrF).length ≤ 1000000000 := by have := flat_form r; omega
      have hk1 : 1 ≤ k := by rw [h3]; exact formR_pos r
      have HWr := Lib.hid (fun w' hv (h : Hdrs w' hv r.hdrs) => rwrite_any r hv w' h hfl)
      have HGd := Lib.hid (fun w' hv (h : Hdrs w' hv r.hdrs) => rgood_any r hv w' h (hsmall_of hfl))
      rw [h2] at HGd
      rw [writeS_good h2] at HWr
      rw [← h4] at HWr
      have k1 : decide ((k : Int) < 1) = false := decide_eq_false (by omega)
      have k2 : decide (buf.length < k) = false := decide_eq_false (by omega)
      have k3 : (k : Int) ≤ buf.length := by omega
      have k4 : (0 : Int) ≤ (k : Int) := by omega
      clear h2 h3 h4 hfl
      obtain ⟨st, hdrs, body, hd, cl⟩ := r
      simp only at h1
      subst h1
      unfold respV wV at *
      simp only at *
      go_enter Tryz.func9, Tryz.ntmps9
      go_wp2_with fail
      refine HFx.out.mono ?_
      rintro e w1 ⟨rfl, hb1⟩
      go_wp2_with fail
      refine (HRd.out w1 hb1).mono ?_
      rintro e w2 ⟨hb2, hv, rfl, hh⟩
      have hA2 := hb1.trans (hb2.mono hb1.size)
      obtain ⟨A, cap, hvA, hx1, hx2, hx3⟩ := hh
      simp only at hvA
      subst hvA
      have hI : InB w w2.heap.size (w2.alloc (.cells #[.int .i64 st, .slice A hdrs.length cap, .string ⟨body.toArray⟩, .bool false, .bool cl] 49)) st A hdrs cap body false cl := InB.mk' hA2 ⟨A, cap, rfl, hx1, hx2, hx3⟩
      have HI := Lib.hid hI
      obtain ⟨-, c0, c1, c2, c3, c4, -, -⟩ := hI
      clear hx1 hx2 hx3 hb1 hb2 hA2
      unfold respV
      go_wp2_with fail
      generalize (w2.alloc (.cells #[.int .i64 st, .slice A hdrs.length cap, .string ⟨body.toArray⟩, .bool false, .bool cl] 49)) = wa at *
      generalize w2.heap.size = b at *
      refine (HGd.out _ _ HI.out.hh).mono ?_
      rintro e w3 ⟨rfl, hb3⟩
      have hJ := HI.out.keep hb3
      have HJ := Lib.hid hJ
      obtain ⟨-, d0, d1, d2, d3, d4, -, -⟩ := hJ
      clear c0 c1 c2 c3 c4 hb3 HI HGd
      go_wp2_with fail
      refine (HWr.out _ _ HJ.out.hh).mono ?_
      rintro e w4 ⟨rfl, hb4⟩
      have HK := Lib.hid (HJ.out.keep hb4)
      clear d0 d1 d2 d3 d4 hb4 HJ HWr
      go_wp2
      go_ret
      exact ⟨by simp, HK.out.bel⟩
    · obtain ⟨m, hm, h1, h2, h3, h4, h5, h6⟩ := read_head hx
      clear hx
      have hfl : (r.hdrs.flatMap hdrF).length ≤ 1000000000 := by have := flat_top r m; omega
      have hk1 : 1 ≤ k := by rw [h4]; exact topS_pos r m
      obtain ⟨m0, hm0, hp0, hpm⟩ := least (p := fun j => topS r j = buf.take k) m h5.symm
      have HTp := Lib.hid (fun w' hv (h : Hdrs w' hv r.hdrs) (j : Nat) (hj : j ≤ 65536) => rtop_any r j hv w' h (good_code h3) hfl (by omega))
      have HGd := Lib.hid (fun w' hv (h : Hdrs w' hv r.hdrs) => rgood_any r hv w' h (hsmall_of hfl))
      have hlen0 : (topS r m0).length = k := by rw [hp0, List.length_take]; omega
      have HMn := Lib.hid (fun j (hj : j < m0) => (⟨hpm j hj, by have := topS_mono r (Nat.le_of_lt hj); omega, fun e => hpm j hj (by rw [topS_204 r e j m0]; exact hp0)⟩ : topS r j ≠ buf.take k ∧ (topS r j).length ≤ k ∧ ¬ r.status = 204))
      rw [h3] at HGd
      have k1 : decide ((k : Int) < 1) = false := decide_eq_false (by omega)
      have k2 : decide (buf.length < k) = false := decide_eq_false (by omega)
      have k3 : (k : Int) ≤ buf.length := by omega
      have k4 : (0 : Int) ≤ (k : Int) := by omega
      have Hp0 := Lib.hid hp0
      have Hl0 := Lib.hid hlen0
      clear h3 h4 h5 hfl hpm hp0 hlen0
      obtain ⟨st, hdrs, body, hd, cl⟩ := r
      simp only at h1 h2
      subst h1 h2
      unfold respV at *
      simp only at *
      generalize topS ⟨st, hdrs, [], true, cl⟩ = TP at *
      go_enter Tryz.func9, Tryz.ntmps9
      go_wp2_with fail
      refine HFx.out.mono ?_
      rintro e w1 ⟨rfl, hb1⟩
      go_wp2_with fail
      refine (HRd.out w1 hb1).mono ?_
      rintro e w2 ⟨hb2, hv, rfl, hh⟩
      have hA2 := hb1.trans (hb2.mono hb1.size)
      obtain ⟨A, cap, hvA, hx1, hx2, hx3⟩ := hh
      simp only at hvA
      subst hvA
      have hI : InB w w2.heap.size (w2.alloc (.cells #[.int .i64 st, .slice A hdrs.length cap, .string ⟨#[]⟩, .bool true, .bool cl] 49)) st A hdrs cap [] true cl := InB.mk' hA2 ⟨A, cap, rfl, hx1, hx2, hx3⟩
      have HI := Lib.hid hI
      obtain ⟨-, c0, c1, c2, c3, c4, -, -⟩ := hI
      clear hx1 hx2 hx3 hb1 hb2 hA2
      unfold respV
      go_wp2_with fail
      generalize (w2.alloc (.cells #[.int .i64 st, .slice A hdrs.length cap, .string ⟨#[]⟩, .bool true, .bool cl] 49)) = wa at *
      generalize w2.heap.size = b at *
      refine (HGd.out _ _ HI.out.hh).mono ?_
      rintro e w3 ⟨rfl, hb3⟩
      have hJ := HI.out.keep hb3
      have HJ := Lib.hid hJ
      obtain ⟨-, d0, d1, d2, d3, d4, -, -⟩ := hJ
      clear c0 c1 c2 c3 c4 hb3 HI HGd
      go_wp2_with fail
      clear d0 d1 d2 d3 d4
      go_loopw [10] (fun i wr => ∃ j : Nat, j ≤ m0 ∧ i = .int .i64 j ∧ InB w b wr st A hdrs cap [] true cl) (fun i _ => 65537 - (intOf i).toNat)
      case atStart => exact ⟨0, Nat.zero_le _, rfl, HJ.out⟩
      case round =>
        obtain ⟨j, hj, rfl, hJ⟩ := hrel
        have HJ2 := Lib.hid hJ
        obtain ⟨-, d0, d1, d2, d3, d4, -, -⟩ := hJ
        clear HJ
        have hj2 : (j : Int) ≤ 65536 := by omega
        have HTj := Lib.hid (fun w' hv h => HTp.out w' hv h j (by omega))
        rcases Nat.lt_or_ge j m0 with hlt | hge
        · obtain ⟨g1, g2, g3⟩ := HMn.out j hlt
          have G1 := Lib.hid g1
          generalize TP j = T at *
          clear g1
          have g2' : ¬ (k : Int) < T.length := by omega
          have g3' : ((st : Int) == 204) = false := beq_eq_false_iff_ne.2 g3
          go_wp2_with fail
          refine (HTj.out _ _ HJ2.out.hh).mono ?_
          rintro e w4 ⟨rfl, hb4⟩
          have hK := HJ2.out.keep hb4
          have HK := Lib.hid hK
          obtain ⟨-, e0, e1, e2, e3, e4, -, -⟩ := hK
          clear d0 d1 d2 d3 d4 hb4 HJ2
          by_cases hTl : T.length = k
          · have hne : (T == buf.take k) = false := beq_eq_false_iff_ne.2 G1.out
            have hTl' : ((T.length : Int) == k) = true := by simp [hTl]
            go_wp2
            go_roundw
            case rel => exact ⟨j + 1, by omega, by go_num, HK.out⟩
            case measure => simp [intOf]; omega
          · have hTl' : ((T.length : Int) == k) = false := by simp; omega
            go_wp2
            go_roundw
            case rel => exact ⟨j + 1, by omega, by go_num, HK.out⟩
            case measure => simp [intOf]; omega
        · obtain rfl : j = m0 := by omega
          have G0 := Hp0.out
          have G1 := Hl0.out
          generalize TP j = T at *
          subst G0
          have hTl' : (((buf.take k).length : Int) == k) = true := by rw [G1]; simp
          go_wp2_with fail
          refine (HTj.out _ _ HJ2.out.hh).mono ?_
          rintro e w4 ⟨rfl, hb4⟩
          have HK := Lib.hid (HJ2.out.keep hb4)
          clear d0 d1 d2 d3 d4 hb4 HJ2
          go_wp2
          go_ret
          exact ⟨rfl, HK.out.bel⟩
end Go.Proofs.YtlkbfehdiopkbaaGreatDoor

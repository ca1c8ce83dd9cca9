import Derived.Test.YtjkiehmjffgnlaaGreatDoorXmlZ52
import Derived.OwnWalk
import Derived.Deep.RegionHeld3
import Derived.Test.YtjkiehmjffgnlaaGreatDoorXmlZ51
import Derived.IntWalk
import Derived.Deep.RegionLaw
namespace Go.Proofs.YtjkiehmjffgnlaaGreatDoor
set_option linter.unusedVariables false
set_option linter.unusedSimpArgs false
open Go.RowKit

set_option maxHeartbeats 32000000 in
set_option maxRecDepth 100000 in
set_option linter.unusedSimpArgs false in
theorem patch_any (dA : Option Addr) (dc : Nat) (dead : List NodeT) (lA : Option Addr) (lc : Nat) (l : List ChgT) (w : World) (hd : Tab 5 (NodeP anyB) w (.slice dA dead.length dc) dead) (hz : dA = none → dead.length = 0 ∧ dc = 0) (hl : Tab 6 (ChgR anyB) w (.slice lA l.length lc) l) (hds : dead.length ≤ 10000000) (hls : l.length ≤ 10000000) :
    Calls Tryz.prog 8 #[.slice dA dead.length dc, .slice lA l.length lc] w (PatchP dead l w) := by
  obtain ⟨E, hEE⟩ : ∃ E, E = PatchP dead l w := ⟨_, rfl⟩
  rw [← hEE]
  have HEE := Lib.hid hEE
  obtain ⟨-, hlc, hlm, hlk⟩ := chg_at hl
  unfold maxLen at hlm
  have HLk := Lib.hid hlk
  have HDt := Lib.hid hd
  have HZ := Lib.hid hz
  obtain ⟨hb3, hc0, hc1, hc2⟩ := three_allocL w (.cells #[.int .i64 200, .slice none 0 0] 43 (0, 0)) (.cells #[.int .i64 403, .slice none 0 0] 43 (0, 0)) (.cells #[.int .i64 424, .slice none 0 0] 43 (0, 0))
  have hdw : Tab 5 (NodeP (fun k => k < w.heap.size)) _ (.slice dA dead.length dc) dead := (TabP.move (R' := NodeP (fun k => k < w.heap.size)) (P := anyB) (Q := anyB) ⟨hd, fun _ _ _ => trivial⟩ (Moves.below hb3 fun _ _ _ => trivial) (fun cs x _ hx => hx.move ⟨hb3.size, fun k _ hk => ⟨hk, hb3.block k hk⟩⟩)).1
  have HCl := Lib.hid (clone_any (fun k => k < w.heap.size) dA dead.length dc dead _ rfl hdw hz (by omega))
  have H0 := Lib.hid hc0
  have H1 := Lib.hid hc1
  have H2 := Lib.hid hc2
  have HB3 := Lib.hid hb3
  have hs3 := xlt hc2
  clear hEE hd hz hl hlk hb3 hc0 hc1 hc2 hdw
  go_enter Tryz.func8, Tryz.ntmps8
  go_wp2_with fail
  refine HCl.out.mono ?_
  rintro e w4 ⟨v, d, rfl, hdm, hk, hlo, hb, -, -⟩
  have hb4 := HB3.out.trans (hb.mono HB3.out.size)
  have HI := PInv.start (dead := dead) (l := l) (B := w.heap.size) ((hb.block _ (xlt H0.out)).trans H0.out) ((hb.block _ (xlt H1.out)).trans H1.out) ((hb.block _ (xlt H2.out)).trans H2.out) (Nat.le_refl _) (Nat.lt_succ_self _) (Nat.lt_succ_self _) hs3 hk (fun p hp => (hlo p hp).move (Moves.same _ fun k hk _ => hk.1)) hdm hb4
  obtain ⟨P0, HI⟩ := HI
  have HI := Lib.hid HI
  clear hk hlo hdm hb hb4 hs3 HB3 H0 H1 H2 HCl
  obtain ⟨b2, hb2⟩ : ∃ b, b = w.heap.size + 1 + 1 := ⟨_, rfl⟩
  rw [← hb2] at HI ⊢
  clear hb2
  obtain ⟨b1, hb1⟩ : ∃ b, b = w.heap.size + 1 := ⟨_, rfl⟩
  rw [← hb1] at HI ⊢
  clear hb1
  obtain ⟨b0, hb0⟩ : ∃ b, PInv w.heap.size b b1 b2 dead l 0 P0 v d w w4 ∧ b = w.heap.size := ⟨_, HI.out, rfl⟩
  rw [← hb0.2]
  have HI := Lib.hid hb0.1
  clear hb0
  go_wp2_with fail
  go_loopg [10, 21] l.length (fun gk v10 v21 wr => ∃ (i : Nat) (P : Fin 3 → Prt) (d : List NodeD), i + gk = l.length ∧ v21 = .int .i64 i ∧ Hid (PInv w.heap.size b0 b1 b2 dead l i P v10 d w wr))
  case atStart => exact ⟨0, P0, d, by omega, rfl, HI⟩
  case round =>
    obtain ⟨i, P, d, hig, rfl, HP⟩ := hrel
    rcases hdr : l.drop i with _ | ⟨c, rest⟩
    · have hi2 : i = l.length := by have := drop_nil hdr; omega
      subst hi2
      clear hdr
      have m0 := HP.out.m0
      have m1 := HP.out.m1
      have m2 := HP.out.m2
      have mn := HP.out.mn
      rw [List.take_length] at m0 m1 m2 mn
      obtain ⟨A0, p0, hv0, hl0, hq0, -⟩ := (HP.out.st.row 0).slice
      obtain ⟨A1, p1, hv1, hl1, hq1, -⟩ := (HP.out.st.row 1).slice
      obtain ⟨A2, p2, hv2, hl2, hq2, -⟩ := (HP.out.st.row 2).slice
      obtain ⟨A, pc, hv, hl9, hq9, -⟩ := HP.out.st.now.slice
      subst hv
      unfold maxLen at hq0 hq1 hq2 hq9
      have k1 : ¬ ((l.length : Int) < l.length) := by omega
      have y := HP.out.st.cell 1
      rw [HP.out.e1.1, HP.out.e1.2, hv1] at y
      have y0 := xat y 0
      have y1 := xat y 1
      simp only [List.getElem?_toArray, List.getElem?_cons_zero, List.getElem?_cons_succ] at y0 y1
      have u := HP.out.st.cell 2
      rw [HP.out.e2.1, HP.out.e2.2, hv2] at u
      have HV0 := Lib.hid hv0
      have HV1 := Lib.hid hv1
      have HV2 := Lib.hid hv2
      have hln := HP.out.lnn
      rcases hbe : badP l with _ | ⟨bn, br⟩
      · have HM0 := Lib.hid m0
        have HMn := Lib.hid (show d.map (·.x) = nowP dead l by rw [mn]; exact nowL_eq l dead (bad_none l hbe))
        have HBe := Lib.hid hbe
        have k3 : ¬ (0 : Int) < ((P 1).d.length : Int) := by
          have h := congrArg List.length m1
          rw [hbe, List.length_map] at h
          simp only [List.length_nil] at h
          omega
        have HSo := Lib.hid (sortK_any w.heap.size (.slice A d.length pc) d wr HP.out.st.now (by omega))
        clear m0 m1 m2 mn hbe u hv0 hv1 hv2 y
        go_wp2_with fail
        refine HSo.out.mono ?_
        rintro e w5 ⟨rfl, d', ⟨hsr, hst⟩, hr5, hg5⟩
        have hS5 := HP.out.st.next hr5 hg5 (fun p hp => (HP.out.st.low p (stab_mem hst hp)).move ⟨hg5.size, fun k hk hlt => ⟨hk, hg5.block k hlt (fun e => by have := (HP.out.st.now.lt k e.symm).1; omega)⟩⟩)
        have z := hS5.cell 0
        rw [HP.out.e0.1, HP.out.e0.2, HV0.out] at z
        have z0 := xat z 0
        have z1 := xat z 1
        simp only [List.getElem?_toArray, List.getElem?_cons_zero, List.getElem?_cons_succ] at z0 z1
        have HS5 := Lib.hid hS5
        have HSt := Lib.hid (show Srt leD d' ∧ Stab leD d d' from ⟨hsr, hst⟩)
        have hal : Below w5.heap.size w5 (w5.alloc (.cells #[.int .i64 200, .slice A0 (P 0).d.length p0] 43 (0, 0))) := (Below.refl _ _).alloc (Nat.le_refl _) _
        have HAl := Lib.hid hal
        have HFu := Lib.hid (full_any w.heap.size w5.heap.size 1 [⟨200, A0, (P 0).d.length, p0⟩] 1 _ rfl (prow_lit1 (heap_alloc_new w5 (.cells #[.int .i64 200, .slice A0 (P 0).d.length p0] 43 (0, 0))) hS5.size) (by decide))
        clear z hS5 hsr hst hal y0 y1 HSo hr5 hg5
        go_wp2_with fail
        refine HFu.out.mono ?_
        rintro e w7 ⟨rfl, hp7, hg7⟩
        have hb7 : Below w5.heap.size w5 w7 := HAl.out.trans (hg7.low (fun k e => by injection e with e; omega) HAl.out.size)
        have hS7 := HS5.out.under hb7
        have hl : (d'.map (·.x)).length = d.length := by rw [List.length_map]; exact HSt.out.2.1
        have HF := Lib.hid (show PatchP dead l w (.returned (.tuple #[.slice A d.length pc, .slice (some ⟨w5.heap.size, 0, none⟩) (fullD [⟨200, A0, (P 0).d.length, p0⟩]).length 1, .bool true])) w7 from
          ⟨A, pc, d'.map (·.x), _, fullP [⟨200, doneP l⟩], true, by rw [hl], by rw [hl]; exact hS7.now.nodes hS7.low.hang, (fun e => by
            rcases hS7.now.form with ⟨h1, h2⟩ | ⟨g, cap, h1, -⟩
            · rw [h2]; injection h1 with _ _ h3; exact ⟨rfl, h3⟩
            · injection h1 with h1; rw [e] at h1; cases h1), by
            rw [← HM0.out]
            exact parts_full (Z := [(⟨200, A0, (P 0).d.length, p0⟩, ⟨200, (P 0).d.map (·.x)⟩)]) hp7 (fun z hz => by
              rw [List.mem_singleton.1 hz]
              exact ⟨rfl, (hS7.part 0 HV0.out).2.1, (hS7.part 0 HV0.out).2.2⟩), hS7.base, (fun _ => ⟨rfl, srt_map HSt.out.1, by rw [← HMn.out]; exact stab_map HSt.out.2, rfl⟩), fun h => absurd HBe.out h⟩)
        clear hp7 hg7 hb7 hS7 hl z0 z1
        go_wp2
        go_ret3
        rw [HEE.out]
        exact HF.out
      · have k3 : (0 : Int) < ((P 1).d.length : Int) := by
          have h := congrArg List.length m1
          rw [hbe, List.length_map] at h
          simp only [List.length_cons] at h
          omega
        have u0 := xat u 0
        have u1 := xat u 1
        simp only [List.getElem?_toArray, List.getElem?_cons_zero, List.getElem?_cons_succ] at u0 u1
        have hyl := xlt y
        have hul := xlt u
        have HBe := Lib.hid (show badP l ≠ [] from by rw [hbe]; exact List.cons_ne_nil _ _)
        have hS0 : wr.drew.cell? ⟨b1, 0, none⟩ = some (.int .i64 403) ∧ wr.drew.cell? ⟨b1, 1, none⟩ = some (.slice A1 (P 1).d.length p1) ∧ wr.drew.cell? ⟨b2, 0, none⟩ = some (.int .i64 424) ∧ wr.drew.cell? ⟨b2, 1, none⟩ = some (.slice A2 (P 2).d.length p2) := ⟨y0, y1, u0, u1⟩
        have Hk := Lib.hid (fun (wb : World) (h : Below wr.heap.size wr wb) => (show wb.cell? ⟨b1, 0, none⟩ = some (.int .i64 403) ∧ wb.cell? ⟨b1, 1, none⟩ = some (.slice A1 (P 1).d.length p1) ∧ wb.cell? ⟨b2, 0, none⟩ = some (.int .i64 424) ∧ wb.cell? ⟨b2, 1, none⟩ = some (.slice A2 (P 2).d.length p2) from ⟨(h.cell (p := ⟨b1, 0, none⟩) hyl).trans y0, (h.cell (p := ⟨b1, 1, none⟩) hyl).trans y1, (h.cell (p := ⟨b2, 0, none⟩) hul).trans u0, (h.cell (p := ⟨b2, 1, none⟩) hul).trans u1⟩))
        have hbw := HP.out.st.base
        have hd1 : Below wr.heap.size wr wr.drew := below_draws (Below.refl _ _) 1
        have hd2 : Below wr.heap.size wr (wr.alloc (.cells #[.int .i64 403, .slice A1 (P 1).d.length p1, .int .i64 424, .slice A2 (P 2).d.length p2] 43 (0, 0))).drew := below_draws ((Below.refl _ _).alloc (Nat.le_refl _) _) 1
        have hsA := Hk.out _ hd2
        have HTw := Lib.hid (fun (W : World) (h : Below wr.heap.size wr W) => (show Tab 5 (NodeP (fun k => k < w.heap.size)) W (.slice dA dead.length dc) dead from
          (TabP.move (R' := NodeP (fun k => k < w.heap.size)) (P := anyB) (Q := anyB) ⟨HDt.out, fun _ _ _ => trivial⟩ (Moves.below (hbw.trans (h.mono hbw.size)) fun _ _ _ => trivial) (fun cs x _ hx => hx.move ⟨(hbw.trans (h.mono hbw.size)).size, fun k _ hk => ⟨hk, (hbw.trans (h.mono hbw.size)).block k hk⟩⟩)).1))
        have HCl2 := Lib.hid (fun (W : World) (h : Below wr.heap.size wr W) => clone_any (fun k => k < w.heap.size) dA dead.length dc dead W rfl (HTw.out W h) HZ.out (by omega))
        have HFu2 := Lib.hid (fun (W : World) (g : Nat) (h : W.heap[g]? = some (.cells #[.int .i64 403, .slice A1 (P 1).d.length p1, .int .i64 424, .slice A2 (P 2).d.length p2] 43 (0, 0))) (hB : w.heap.size ≤ g) => full_any w.heap.size g 2 [⟨403, A1, (P 1).d.length, p1⟩, ⟨424, A2, (P 2).d.length, p2⟩] 2 W rfl (prow_lit2 h hB) (by decide))
        have HcA := Lib.hid (fun (w7 : World) (h : Below (wr.alloc (.cells #[.int .i64 403, .slice A1 (P 1).d.length p1, .int .i64 424, .slice A2 (P 2).d.length p2] 43 (0, 0))).drew.heap.size (wr.alloc (.cells #[.int .i64 403, .slice A1 (P 1).d.length p1, .int .i64 424, .slice A2 (P 2).d.length p2] 43 (0, 0))).drew w7) => (show Below wr.heap.size wr w7 ∧ w7.heap[wr.heap.size]? = some (.cells #[.int .i64 403, .slice A1 (P 1).d.length p1, .int .i64 424, .slice A2 (P 2).d.length p2] 43 (0, 0)) from
          ⟨hd2.trans (h.mono hd2.size), (h.block _ (xlt (heap_alloc_new wr (.cells #[.int .i64 403, .slice A1 (P 1).d.length p1, .int .i64 424, .slice A2 (P 2).d.length p2] 43 (0, 0))))).trans (heap_alloc_new wr (.cells #[.int .i64 403, .slice A1 (P 1).d.length p1, .int .i64 424, .slice A2 (P 2).d.length p2] 43 (0, 0)))⟩))
        have HcB := Lib.hid (fun (w7 : World) (h : Below wr.drew.heap.size wr.drew w7) => (show Below wr.heap.size wr w7 from hd1.trans h))
        have HEndA := Lib.hid (fun (w7 w9 : World) (v7 : Value) (d7 : List NodeD) (hk7 : KRow (wr.alloc (.cells #[.int .i64 403, .slice A1 (P 1).d.length p1, .int .i64 424, .slice A2 (P 2).d.length p2] 43 (0, 0))).drew.heap.size v7 d7 w7) (hd7 : d7.map (·.x) = dead) (hl7 : ∀ p ∈ d7, NodeP (fun k => k < w.heap.size ∧ k < (wr.alloc (.cells #[.int .i64 403, .slice A1 (P 1).d.length p1, .int .i64 424, .slice A2 (P 2).d.length p2] 43 (0, 0))).drew.heap.size) w7 p.cells p.x) (hw7 : Below wr.heap.size wr w7) (hp9 : PRow w.heap.size wr.heap.size 2 (fullD [⟨403, A1, (P 1).d.length, p1⟩, ⟨424, A2, (P 2).d.length, p2⟩]) w9) (hg9 : RGr (some wr.heap.size) (some wr.heap.size) w7 w9) =>
          bad_end HP.out HBe.out HV1.out HV2.out hk7 hd7 hl7 hw7 (Below.refl _ _) (fun e => by have := (hk7.lt _ e).1; have h2 : (wr.alloc (.cells #[.int .i64 403, .slice A1 (P 1).d.length p1, .int .i64 424, .slice A2 (P 2).d.length p2] 43 (0, 0))).drew.heap.size = wr.heap.size + 1 := World.size_alloc ..; omega) (Nat.le_refl _) hg9 hp9)
        have HEndB := Lib.hid (fun (w7 w9 : World) (v7 : Value) (d7 : List NodeD) (hk7 : KRow wr.drew.heap.size v7 d7 w7) (hd7 : d7.map (·.x) = dead) (hl7 : ∀ p ∈ d7, NodeP (fun k => k < w.heap.size ∧ k < wr.drew.heap.size) w7 p.cells p.x) (hw7 : Below wr.heap.size wr w7) (hp9 : PRow w.heap.size w7.heap.size 2 (fullD [⟨403, A1, (P 1).d.length, p1⟩, ⟨424, A2, (P 2).d.length, p2⟩]) w9) (hg9 : RGr (some w7.heap.size) (some w7.heap.size) (w7.alloc (.cells #[.int .i64 403, .slice A1 (P 1).d.length p1, .int .i64 424, .slice A2 (P 2).d.length p2] 43 (0, 0))) w9) =>
          bad_end HP.out HBe.out HV1.out HV2.out hk7 hd7 hl7 hw7 ((Below.refl w7.heap.size w7).alloc (Nat.le_refl _) _) (fun e => by have := (hk7.lt _ e).2; omega) hw7.size hg9 hp9)
        have HLo := Lib.hid (fun (W w9 : World) (g : Nat) (h : Below wr.heap.size wr W) (hg : wr.heap.size ≤ g) (hr : RGr (some g) (some g) W w9) => (show w9.cell? ⟨b1, 0, none⟩ = some (.int .i64 403) ∧ w9.cell? ⟨b1, 1, none⟩ = some (.slice A1 (P 1).d.length p1) ∧ w9.cell? ⟨b2, 0, none⟩ = some (.int .i64 424) ∧ w9.cell? ⟨b2, 1, none⟩ = some (.slice A2 (P 2).d.length p2) from Hk.out w9 (h.trans (hr.low (fun k e => by injection e with e; omega) h.size))))
        have HAl := Lib.hid (fun (w7 : World) (h : Below wr.heap.size wr w7) => (show Below wr.heap.size wr (w7.alloc (.cells #[.int .i64 403, .slice A1 (P 1).d.length p1, .int .i64 424, .slice A2 (P 2).d.length p2] 43 (0, 0))) ∧ (w7.alloc (.cells #[.int .i64 403, .slice A1 (P 1).d.length p1, .int .i64 424, .slice A2 (P 2).d.length p2] 43 (0, 0))).heap[w7.heap.size]? = some (.cells #[.int .i64 403, .slice A1 (P 1).d.length p1, .int .i64 424, .slice A2 (P 2).d.length p2] 43 (0, 0)) from ⟨h.alloc h.size _, heap_alloc_new w7 _⟩))
        have hsw : w.heap.size ≤ wr.heap.size := hbw.size
        clear m0 m1 m2 mn hbe hv0 hv1 hv2 y u hyl hul HDt HTw HLk
        go_upto_region 16 with (fail)
        clear y0 y1 u0 u1
        go_region_held3 (fun w' => w'.cell? ⟨b1, 0, none⟩ = some (.int .i64 403) ∧ w'.cell? ⟨b1, 1, none⟩ = some (.slice A1 (P 1).d.length p1) ∧ w'.cell? ⟨b2, 0, none⟩ = some (.int .i64 424) ∧ w'.cell? ⟨b2, 1, none⟩ = some (.slice A2 (P 2).d.length p2))
          (first | with_reducible exact hS0 | with_reducible exact hs9 | with_reducible exact hs8 | with_reducible exact hs7 | with_reducible exact hsA)
          (first
            | (have _h := hgA; go_at_call 21; refine (HFu2.out w7 wr.heap.size hgA hsw).mono ?_; rintro e w9 ⟨rfl, hp9, hg9⟩; have hs9 := HLo.out w7 w9 wr.heap.size hw7 (Nat.le_refl _) hg9; have HF := Lib.hid (HEndA.out w7 w9 v7 d7 hk7 hd7 hl7 hw7 hp9 hg9))
            | (have _h := hgB; go_at_call 21; refine (HFu2.out _ w7.heap.size (HAl.out w7 hw7).2 (Nat.le_trans hsw hw7.size)).mono ?_; rintro e w9 ⟨rfl, hp9, hg9⟩; have hs9 := HLo.out _ w9 w7.heap.size (HAl.out w7 hw7).1 hw7.size hg9; have HF := Lib.hid (HEndB.out w7 w9 v7 d7 hk7 hd7 hl7 hw7 hp9 hg9))
            | (go_at_call 16; refine (HCl2.out _ hd2).mono ?_; rintro e w7 ⟨v7, d7, rfl, hd7, hk7, hl7, hb7, -, -⟩; obtain ⟨hw7, hgA⟩ := HcA.out w7 hb7; have hs7 := Hk.out w7 hw7)
            | (go_at_call 16; refine (HCl2.out _ hd1).mono ?_; rintro e w7 ⟨v7, d7, rfl, hd7, hk7, hl7, hb7, -, -⟩; have hw7 := HcB.out w7 hb7; have hgB := hw7; have hs7 := Hk.out w7 hw7; have hs8 := Hk.out _ (HAl.out w7 hw7).1))
        all_goals
          clear hs7 hs9 hp9 hg9
          go_wp2
          go_ret3
          rw [HEE.out]
          exact HF.out
    · obtain ⟨hlt, hx, hr⟩ := drop_consA hdr
      obtain ⟨bl, o, aA, ac, kA, kc, rfl, hbl, c0, c1, c2, c3, c4, c5, hnd⟩ := HLk.out i c hx
      have HX := Lib.hid hx
      have hbs := HP.out.st.base.block bl hbl
      have e0 : wr.cell? ⟨bl, o + i * 6, none⟩ = some (.bool c.remove) := by rw [cell_eq hbs]; exact c0
      have e1 : wr.cell? ⟨bl, o + i * 6 + 1, none⟩ = some (.string ⟨c.value.text.toArray⟩) := by rw [cell_eq hbs]; exact c1
      have e2 : wr.cell? ⟨bl, o + i * 6 + 2, none⟩ = some (.string ⟨c.value.space.toArray⟩) := by rw [cell_eq hbs]; exact c2
      have e3 : wr.cell? ⟨bl, o + i * 6 + 3, none⟩ = some (.string ⟨c.value.name.toArray⟩) := by rw [cell_eq hbs]; exact c3
      have e4 : wr.cell? ⟨bl, o + i * 6 + 4, none⟩ = some (.slice aA c.value.attrs.length ac) := by rw [cell_eq hbs]; exact c4
      have e5 : wr.cell? ⟨bl, o + i * 6 + 5, none⟩ = some (.slice kA c.value.kids.length kc) := by rw [cell_eq hbs]; exact c5
      have k1 : (i : Int) < l.length := by omega
      have k2 : (0 : Int) ≤ i := by omega
      have HNd := Lib.hid (show NodeP (fun k => k < w.heap.size) w [.string ⟨c.value.text.toArray⟩, .string ⟨c.value.space.toArray⟩, .string ⟨c.value.name.toArray⟩, .slice aA c.value.attrs.length ac, .slice kA c.value.kids.length kc] c.value from hnd.move (Moves.same w fun _ _ hk => hk))
      have HNm := Lib.hid (fun w => name_any c.value.text c.value.space c.value.name (.slice aA c.value.attrs.length ac) (.slice kA c.value.kids.length kc) w)
      clear c0 c1 c2 c3 c4 c5 hnd hdr hr hx hbs
      go_wp2_with fail
      refine (HNm.out _).mono ?_
      rintro e w5 ⟨rfl, q5, os5, he5⟩
      have hbA : Below wr.heap.size wr (wr.alloc (.cells #[.bool c.remove, .string ⟨c.value.text.toArray⟩, .string ⟨c.value.space.toArray⟩, .string ⟨c.value.name.toArray⟩, .slice aA c.value.attrs.length ac, .slice kA c.value.kids.length kc] 54 (0, 0))) := (Below.refl _ _).alloc (Nat.le_refl _) _
      have hqA := heap_alloc_new wr (.cells #[.bool c.remove, .string ⟨c.value.text.toArray⟩, .string ⟨c.value.space.toArray⟩, .string ⟨c.value.name.toArray⟩, .slice aA c.value.attrs.length ac, .slice kA c.value.kids.length kc] 54 (0, 0))
      have hb5 : Below (wr.alloc (.cells #[.bool c.remove, .string ⟨c.value.text.toArray⟩, .string ⟨c.value.space.toArray⟩, .string ⟨c.value.name.toArray⟩, .slice aA c.value.attrs.length ac, .slice kA c.value.kids.length kc] 54 (0, 0))).heap.size (wr.alloc (.cells #[.bool c.remove, .string ⟨c.value.text.toArray⟩, .string ⟨c.value.space.toArray⟩, .string ⟨c.value.name.toArray⟩, .slice aA c.value.attrs.length ac, .slice kA c.value.kids.length kc] 54 (0, 0))) w5 := he5 ▸ below_grown _ q5 os5
      have hbk : Below w5.heap.size w5 (w5.alloc (.cells #[.string ⟨c.value.space.toArray⟩, .string ⟨c.value.name.toArray⟩] 52 (0, 0))) := (Below.refl _ _).alloc (Nat.le_refl _) _
      have hqk := heap_alloc_new w5 (.cells #[.string ⟨c.value.space.toArray⟩, .string ⟨c.value.name.toArray⟩] 52 (0, 0))
      have hwA5 : wr.heap.size ≤ w5.heap.size := Nat.le_trans hbA.size hb5.size
      have hq5 := (hb5.block _ (xlt hqA)).trans hqA
      have HKq := Lib.hid (PSt.fresh HP.out.st (Nat.le_refl _) ((hbk.block _ (xlt hq5)).trans hq5))
      have HKk := Lib.hid (PSt.fresh HP.out.st hwA5 hqk)
      have HS6 := Lib.hid (HP.out.st.under (hbA.trans ((hb5.mono hbA.size).trans (hbk.mono hwA5))))
      clear e0 e1 e2 e3 e4 e5 hbA hqA hb5 hbk hqk hwA5 hq5 he5 HNm
      obtain ⟨kb, hkb⟩ : ∃ kb, kb = w5.heap.size := ⟨_, rfl⟩
      rw [← hkb] at HKk
      go_wp2_with fail
      refine (HS6.out.call 0 HP.out.e0 (by have := HP.out.ln 0; omega) (keyN c.value)).mono ?_
      rw [← hkb]
      clear hkb
      rintro e w7 ⟨rfl, P7, hS7, hK7, hb7, hd7, hj7⟩
      have HS7 := Lib.hid hS7
      have HKq7 := Lib.hid (hK7 _ _ HKq.out)
      have HKk7 := Lib.hid (hK7 _ _ HKk.out)
      have y0 := xat HKk7.out.at_ 0
      have y1 := xat HKk7.out.at_ 1
      simp only [List.getElem?_toArray, List.getElem?_cons_zero, List.getElem?_cons_succ] at y0 y1
      clear hS7 hK7 HKq HKk HS6
      have HJ7 := Lib.hid (show (∀ j, (P7 j).b = (P j).b ∧ (P7 j).code = (P j).code) ∧ (P7 0).d = putD (P 0).d (keyN c.value) ∧ P7 1 = P 1 ∧ P7 2 = P 2 from ⟨hb7, hd7, hj7 1 (by decide), hj7 2 (by decide)⟩)
      clear hb7 hd7 hj7
      go_wp2_with fail
      refine (protected_any c.value.space c.value.name w7).mono ?_
      rintro e w8 ⟨rfl, q8, os8, he8⟩
      have hb8 : Below w7.heap.size w7 w8 := he8 ▸ below_grown _ q8 os8
      have HS8 := Lib.hid (HS7.out.under hb8)
      have HKq8 := Lib.hid (HKq7.out.under hb8)
      have HKk8 := Lib.hid (HKk7.out.under hb8)
      clear y0 y1 he8 hb8 HS7 HKq7 HKk7
      obtain ⟨pk, hpk⟩ : ∃ pk, pk = protK (c.value.space, c.value.name) := ⟨_, rfl⟩
      rw [← hpk]
      have HPk := Lib.hid (show protK (keyN c.value) = pk from hpk.symm)
      clear hpk
      have y0 := xat HKk8.out.at_ 0
      have y1 := xat HKk8.out.at_ 1
      simp only [List.getElem?_toArray, List.getElem?_cons_zero, List.getElem?_cons_succ] at y0 y1
      cases pk
      · go_wp2_with fail
        refine (HS8.out.call 2 ⟨(HJ7.out.1 2).1.trans HP.out.e2.1, (HJ7.out.1 2).2.trans HP.out.e2.2⟩ (by rw [HJ7.out.2.2.2]; have := HP.out.ln 2; omega) (keyN c.value)).mono ?_
        rintro e w9 ⟨rfl, P9, hS9, hK9, hb9, hd9, hj9⟩
        have HS9 := Lib.hid hS9
        have HKq9 := Lib.hid (hK9 _ _ HKq8.out)
        have HKk9 := Lib.hid (hK9 _ _ HKk8.out)
        have HJ9 := Lib.hid (show (∀ j, (P9 j).b = (P j).b ∧ (P9 j).code = (P j).code) ∧ (P9 0).d = putD (P 0).d (keyN c.value) ∧ (P9 1).d = (P 1).d ∧ (P9 2).d = putD (P 2).d (keyN c.value) from
          ⟨fun j => ⟨(hb9 j).1.trans (HJ7.out.1 j).1, (hb9 j).2.trans (HJ7.out.1 j).2⟩, by rw [hj9 0 (by decide)]; exact HJ7.out.2.1, by rw [hj9 1 (by decide), HJ7.out.2.2.1], by rw [hd9, HJ7.out.2.2.2]⟩)
        clear y0 y1 hS9 hK9 hb9 hd9 hj9 HS8 HKq8 HKk8 HJ7
        have HDe := Lib.hid (deleteK_any w.heap.size u10 d (keyN c.value) kb w9 HS9.out.now HS9.out.low.hang HKk9.out.at_ (fun e => HKk9.out.offn e.symm) (by have := HP.out.lnn; omega))
        go_wp2_with fail
        refine HDe.out.mono ?_
        rintro e w10 ⟨v', rfl, hr10, hg10, ho10⟩
        have HS10 := Lib.hid (HS9.out.next (d' := keepD (keyN c.value) d) hr10 (by rw [ho10]; exact hg10) (fun p hp => (HS9.out.low p (List.mem_filter.1 hp).1).move ⟨hg10.size, fun k hk hlt => ⟨hk, hg10.block k hlt (fun e => by have := (HS9.out.now.lt k e.symm).1; omega)⟩⟩))
        have HKq10 := Lib.hid (HKq9.out.next (v' := v') (by rw [ho10]; exact hg10))
        clear hr10 hg10 ho10 HDe HS9 HKq9 HKk9
        have x0 := xat HKq10.out.at_ 0
        have x1 := xat HKq10.out.at_ 1
        have x2 := xat HKq10.out.at_ 2
        have x3 := xat HKq10.out.at_ 3
        have x4 := xat HKq10.out.at_ 4
        have x5 := xat HKq10.out.at_ 5
        simp only [List.getElem?_toArray, List.getElem?_cons_zero, List.getElem?_cons_succ] at x0 x1 x2 x3 x4 x5
        obtain ⟨rm, hrm⟩ : ∃ rm, rm = c.remove := ⟨_, rfl⟩
        rw [← hrm] at x0
        have HRm := Lib.hid (show stepP (d.map (·.x)) c = (keepD (keyN c.value) d).map (·.x) ++ (if rm then [] else [c.value]) by unfold stepP; rw [keepD_map, hrm])
        clear hrm
        cases rm
        · have hal : Below w10.heap.size w10 (w10.alloc (.cells #[.string ⟨c.value.text.toArray⟩, .string ⟨c.value.space.toArray⟩, .string ⟨c.value.name.toArray⟩, .slice aA c.value.attrs.length ac, .slice kA c.value.kids.length kc] 46 (0, 0))) := (Below.refl _ _).alloc (Nat.le_refl _) _
          have hqn := heap_alloc_new w10 (.cells #[.string ⟨c.value.text.toArray⟩, .string ⟨c.value.space.toArray⟩, .string ⟨c.value.name.toArray⟩, .slice aA c.value.attrs.length ac, .slice kA c.value.kids.length kc] 46 (0, 0))
          have hS11 := HS10.out.under hal
          obtain ⟨v1, w11, run1, o1, bb1, g1, p1⟩ := run_appT elemN 22 hS11.now (some ⟨w10.heap.size, 0, none⟩) 1 1 (news := [(⟨c.value, aA, c.value.attrs.length, ac, kA, c.value.kids.length, kc⟩ : NodeD).cells]) rfl (Nat.le_refl _) (fun r hr => by rw [List.mem_singleton.1 hr]; rfl) (fun _ => ⟨_, 0, rfl, fun j r hr c u hu => by
            match j, hr with
            | 0, hr =>
              injection hr with hr
              subst hr
              rw [Nat.zero_mul, Nat.zero_add, Nat.zero_add]
              simp only [World.cell?, hqn]
              rw [← hu]
              simp [NodeD.cells]
            | j + 1, hr => simp at hr⟩) (fun r hr u hu => by rw [List.mem_singleton.1 hr] at hu; exact encD.one _ u hu) (by rw [List.length_map]; have := HP.out.lnn; have := keepD_len (keyN c.value) d; omega) hS11.size
          have hg11 : RGr v'.ownBlock v1.ownBlock (w10.alloc (.cells #[.string ⟨c.value.text.toArray⟩, .string ⟨c.value.space.toArray⟩, .string ⟨c.value.name.toArray⟩, .slice aA c.value.attrs.length ac, .slice kA c.value.kids.length kc] 46 (0, 0))) w11 := RGr.of g1 (p1.imp id fun e => ⟨_, e, Nat.le_refl _⟩)
          have hlow : Below w.heap.size (w10.alloc (.cells #[.string ⟨c.value.text.toArray⟩, .string ⟨c.value.space.toArray⟩, .string ⟨c.value.name.toArray⟩, .slice aA c.value.attrs.length ac, .slice kA c.value.kids.length kc] 46 (0, 0))) w11 := hg11.low (fun k e => (hS11.now.lt k e).1) hS11.size
          have hS12 := hS11.next (v' := v1) (d' := keepD (keyN c.value) d ++ [⟨c.value, aA, c.value.attrs.length, ac, kA, c.value.kids.length, kc⟩]) (by unfold KRow; rw [List.map_append]; exact o1) hg11 (fun p hp => by
            rcases List.mem_append.1 hp with hp | hp
            · exact hS11.low.below hlow p hp
            · rw [List.mem_singleton.1 hp]
              exact HNd.out.move ⟨((hS11.base).trans hlow).size, fun k hk _ => ⟨hk, ((hS11.base).trans hlow).block k hk⟩⟩)
          have HF := Lib.hid (HP.out.other HX.out HPk.out hS12 HJ9.out.1 HJ9.out.2.1 HJ9.out.2.2.1 HJ9.out.2.2.2 (by rw [HRm.out, List.map_append]; rfl) (by rw [List.length_append]; have := keepD_len (keyN c.value) d; simp only [List.length_cons, List.length_nil]; omega))
          have HR := Lib.hid run1
          clear hal hqn hS11 run1 o1 bb1 g1 p1 hg11 hlow hS12 HS10 HKq10 HRm HJ9
          go_wp2_with (at_builtin; refine wpList_app_run (by rfl) _ _ rfl rfl rfl HR.out ?_)
          go_roundg (gk - 1)
          case measure => omega
          case rel => exact ⟨i + 1, P9, _, by omega, by go_num, HF⟩
        · have HF := Lib.hid (HP.out.other HX.out HPk.out HS10.out HJ9.out.1 HJ9.out.2.1 HJ9.out.2.2.1 HJ9.out.2.2.2 (by rw [HRm.out]; simp) (by have := keepD_len (keyN c.value) d; omega))
          clear HS10 HKq10 HRm HJ9
          go_wp2
          go_roundg (gk - 1)
          case measure => omega
          case rel => exact ⟨i + 1, P9, _, by omega, by go_num, HF⟩
      · go_wp2_with fail
        refine (HS8.out.call 1 ⟨(HJ7.out.1 1).1.trans HP.out.e1.1, (HJ7.out.1 1).2.trans HP.out.e1.2⟩ (by rw [HJ7.out.2.2.1]; have := HP.out.ln 1; omega) (keyN c.value)).mono ?_
        rintro e w9 ⟨rfl, P9, hS9, hK9, hb9, hd9, hj9⟩
        have HF := Lib.hid (HP.out.bad HX.out HPk.out hS9 (fun j => ⟨(hb9 j).1.trans (HJ7.out.1 j).1, (hb9 j).2.trans (HJ7.out.1 j).2⟩) (by rw [hj9 0 (by decide)]; exact HJ7.out.2.1) (by rw [hd9, HJ7.out.2.2.1]) (by rw [hj9 2 (by decide), HJ7.out.2.2.2]))
        clear y0 y1 hS9 hK9 hb9 hd9 hj9 HS8 HKq8 HKk8 HJ7
        go_wp2
        go_roundg (gk - 1)
        case measure => omega
        case rel => exact ⟨i + 1, P9, d, by omega, by go_num, HF⟩
end Go.Proofs.YtjkiehmjffgnlaaGreatDoor
namespace Go.Proofs.YtjkiehmjffgnlaaGreatDoor
set_option linter.unusedVariables false
set_option linter.unusedSimpArgs false
open Go.RowKit

def fxA : NodeT := .mk [] [120] [97] [] []
def fxB : NodeT := .mk [] [120] [98] [] []
def fxL : List ChgT := [⟨false, fxB⟩, ⟨true, fxA⟩]
def fxE : NodeT := davN [103, 101, 116, 101, 116, 97, 103] [textN [34, 55, 34]]
theorem fx_seven : Lib.itoa 7 = [55] := by decide +kernel
theorem fx_idx (K : List NodeT) : idxFrom ([68, 65, 86, 58], [103, 101, 116, 101, 116, 97, 103]) (allN 1 3 7 K []) 0 = ((2 : Nat) : Int) ∧ (allN 1 3 7 K [])[2]? = some fxE := by
  refine ⟨rfl, ?_⟩
  have h : (allN 1 3 7 K [])[2]? = some (davN [103, 101, 116, 101, 116, 97, 103] [textN (34 :: (Lib.itoa 7 ++ [34]))]) := rfl
  rw [h, fx_seven]
  rfl
theorem fx_idx2 (K : List NodeT) : idxFrom ([120], [113]) (allN 1 3 7 K []) 0 = -1 := rfl
theorem fx_bad : badP fxL = [] := by decide +kernel
theorem fx_now : nowP [fxA] fxL = [fxB] := by rfl
theorem fx_done : fullP [⟨200, doneP fxL⟩] = [⟨200, [bareN ([120], [98]), bareN ([120], [97])]⟩] := by rfl
theorem stab_one {x : NodeT} {l : List NodeT} (h : Stab leN [x] l) : l = [x] := by
  obtain ⟨h1, h2⟩ := h
  rcases l with _ | ⟨y, _ | ⟨z, r⟩⟩
  · cases h1
  · have h3 := h2 x
    rw [show [x].filter (eqv leN x) = [x] from by rw [List.filter_cons, if_pos (eqv_self leN_ok x)]; rfl] at h3
    have hm : x ∈ [y].filter (eqv leN x) := by rw [h3]; exact List.mem_singleton.2 rfl
    have hm2 := List.mem_singleton.1 (List.mem_filter.1 hm).1
    rw [hm2]
  · simp at h1
set_option maxHeartbeats 32000000 in
set_option maxRecDepth 100000 in
set_option linter.unusedSimpArgs false in
theorem fixed18_any (w : World) (hE : MEnv w) : Calls Tryz.prog 7 #[] w (Ret (.bool true) w) := by
  obtain ⟨E, hEE⟩ : ∃ E, E = Ret (.bool true) w := ⟨_, rfl⟩
  rw [← hEE]
  have HEE := Lib.hid hEE
  obtain ⟨hb, h0, h1⟩ := two_alloc w (.cells #[.string ⟨#[97]⟩] 9 (0, 0)) (.cells #[.string ⟨#[68, 65, 86, 58]⟩, .string ⟨#[103, 101, 116, 101, 116, 97, 103]⟩, .string ⟨#[120]⟩, .string ⟨#[113]⟩] 52 (0, 0))
  have hT : SeenP (some ⟨w.heap.size, 0, none⟩) 1 [[97]] 3 7 none 0 [] none 0 [] 0 _ := ⟨⟨_, _, rfl, Nat.le_refl _, by show 1 ≤ maxLen; decide, fun j l hl => by
      match j, hl with
      | 0, hl => injection hl with hl; subst hl; exact ⟨_, _, rfl, xlt h0, xat h0 0⟩
      | j + 1, hl => simp at hl⟩, Tab.nil _ _ _, Tab.nil _ _ _, (fun l hl => by cases hl), (fun h => absurd rfl h), Nat.zero_le _, Nat.zero_le _, by decide, by decide, by decide, by decide, hE.below hb⟩
  have HTe := Lib.hid (tell_two (kind := 1) (w.heap.size + 1) 0 2 2 [68, 65, 86, 58] [103, 101, 116, 101, 116, 97, 103] [120] [113] fxE (xlt h1) (Nat.le_refl _) (by decide) (xat h1 0) (xat h1 1) (xat h1 2) (xat h1 3) fx_idx fx_idx2 hT)
  have HB := Lib.hid hb
  have HE := Lib.hid hE
  clear hEE hE hb h0 h1 hT
  go_enter Tryz.func7, Tryz.ntmps7
  go_wp2_with fail
  refine HTe.out.mono ?_
  rintro e w5 ⟨b5, rfl, hp5, hb5⟩
  have hlo := HB.out.trans (hb5.mono HB.out.size)
  obtain ⟨hc, g0, g1⟩ := two_alloc w5 (.cells #[.string ⟨#[]⟩, .string ⟨#[120]⟩, .string ⟨#[97]⟩, .slice none 0 0, .slice none 0 0] 46 (0, 0)) (.cells #[.bool false, .string ⟨#[]⟩, .string ⟨#[120]⟩, .string ⟨#[98]⟩, .slice none 0 0, .slice none 0 0, .bool true, .string ⟨#[]⟩, .string ⟨#[120]⟩, .string ⟨#[97]⟩, .slice none 0 0, .slice none 0 0] 54 (0, 0))
  have hna : ∀ (Q : Nat → Prop) (W : World), NodeP Q W [.string ⟨#[]⟩, .string ⟨#[120]⟩, .string ⟨#[97]⟩, .slice none 0 0, .slice none 0 0] fxA := fun Q W => NodeP.of (t := []) (s := [120]) (n := [97]) (ats := []) (ks := []) (TabP.nil _ _ _ _) (TabP.nil _ _ _ _)
  have hnb : ∀ (Q : Nat → Prop) (W : World), NodeP Q W [.string ⟨#[]⟩, .string ⟨#[120]⟩, .string ⟨#[98]⟩, .slice none 0 0, .slice none 0 0] fxB := fun Q W => NodeP.of (t := []) (s := [120]) (n := [98]) (ats := []) (ks := []) (TabP.nil _ _ _ _) (TabP.nil _ _ _ _)
  have HPa := Lib.hid (patch_any (some ⟨w5.heap.size, 0, none⟩) 1 [fxA] (some ⟨w5.heap.size + 1, 0, none⟩) 2 fxL _ (nodes_lit1 (r := [.string ⟨#[]⟩, .string ⟨#[120]⟩, .string ⟨#[97]⟩, .slice none 0 0, .slice none 0 0]) (P := anyB) g0 (hna _ _) trivial).1 (fun e => by cases e) (many_row (P := anyB) (n := 6) (rows := [[.bool false, .string ⟨#[]⟩, .string ⟨#[120]⟩, .string ⟨#[98]⟩, .slice none 0 0, .slice none 0 0], [.bool true, .string ⟨#[]⟩, .string ⟨#[120]⟩, .string ⟨#[97]⟩, .slice none 0 0, .slice none 0 0]]) (xs := fxL) g1 (fun r hr => by
      simp only [List.mem_cons, List.not_mem_nil, or_false] at hr
      rcases hr with rfl | rfl <;> rfl) rfl (show 2 ≤ maxLen by decide) (fun j r x hr hx => by
      match j, hr, hx with
      | 0, hr, hx => injection hr with hr; injection hx with hx; subst hr hx; exact ⟨_, rfl, hnb _ _⟩
      | 1, hr, hx => injection hr with hr; injection hx with hx; subst hr hx; exact ⟨_, rfl, hna _ _⟩
      | j + 2, hr, hx => simp at hr) trivial).1 (by decide) (by decide))
  have HP5 := Lib.hid (hp5.under hc)
  have HC := Lib.hid (hlo.trans (hc.mono hlo.size))
  clear hp5 hb5 hlo hc g0 g1 hna hnb HTe HB
  go_wp2_with fail
  refine HPa.out.mono ?_
  rintro e w7 ⟨A, c, res, pv, parts, ok, rfl, hN, -, hP, hb7, hok, -⟩
  obtain ⟨rfl, hsr, hst, hpa⟩ := hok fx_bad
  rw [fx_now] at hst
  have hres := stab_one hst
  subst hres
  rw [fx_done] at hpa
  subst hpa
  have hp7 := HP5.out.under hb7
  have HL7 := Lib.hid (HC.out.trans (hb7.mono HC.out.size))
  obtain ⟨qA, qc, hqv, -, -⟩ := (show ∃ A c, pv = .slice A 1 c ∧ True ∧ True from by obtain ⟨A, c, h, -⟩ := hP.1; exact ⟨A, c, h, trivial, trivial⟩)
  subst hqv
  obtain ⟨-, hq1, hq2, hqk⟩ := part_at hP.1
  obtain ⟨-, -, -, hpk⟩ := part_at hp7.1
  obtain ⟨p, o, xA, xc, hpe, hpl, u0, u1, hx⟩ := hpk 0 _ rfl
  obtain ⟨p', o', zA, zc, hpe', hpl', u2, u3, hz⟩ := hpk 1 _ rfl
  injection hpe with hpe
  injection hpe with e1 e2
  injection hpe' with hpe'
  injection hpe' with e3 e4
  subst e1 e2 e3 e4
  obtain ⟨-, hx1, hx2, hxk⟩ := kid_at hx
  obtain ⟨n0, m0, aA0, ac0, kA0, kc0, hxA, hn0l, v0, v1, v2, v3, v4, hat0, hkd0⟩ := hxk 0 _ rfl
  subst hxA
  obtain ⟨-, hk1, hk2, hkk⟩ := kid_at hkd0
  obtain ⟨n1, m1, aA1, ac1, kA1, kc1, hkA, hn1l, t0, t1, t2, t3, t4, -, -⟩ := hkk 0 _ rfl
  subst hkA
  obtain ⟨-, hd1, hd2, hdk⟩ := kid_at hN
  obtain ⟨n2, m2, aA2, ac2, kA2, kc2, hdA, hn2l, s0, s1, s2, s3, s4, -, -⟩ := hdk 0 _ rfl
  subst hdA
  obtain ⟨p3, o3, yA, yc, hqA, hp3l, r0, r1, -⟩ := hqk 0 _ rfl
  subst hqA
  have a0 : w7.cell? ⟨b5, 0, none⟩ = some (.int .i64 200) := u0
  have a1 : w7.cell? ⟨b5, 1, none⟩ = some (.slice (some ⟨n0, m0, none⟩) 1 xc) := u1
  have a2 : w7.cell? ⟨b5, 2, none⟩ = some (.int .i64 404) := u2
  have a4 : w7.cell? ⟨n0, m0 + 4, none⟩ = some (.slice (some ⟨n1, m1, none⟩) 1 kc0) := v4
  have a5 : w7.cell? ⟨n1, m1, none⟩ = some (.string ⟨#[34, 55, 34]⟩) := t0
  have a6 : w7.cell? ⟨n2, m2 + 2, none⟩ = some (.string ⟨#[98]⟩) := s2
  have a7 : w7.cell? ⟨p3, o3 + 1, none⟩ = some (.slice yA 2 yc) := r1
  have HPr := Lib.hid (protected_any [68, 65, 86, 58] [103, 101, 116, 101, 116, 97, 103] w7)
  rw [show protK ([68, 65, 86, 58], [103, 101, 116, 101, 116, 97, 103]) = true from by decide +kernel] at HPr
  replace HPa : True := trivial
  clear u0 u1 u2 u3 v0 v1 v2 v3 v4 t0 t1 t2 t3 t4 s0 s1 s2 s3 s4 r0 r1 hx hz hxk hkk hdk hqk hpk hP hN hp7 hat0 hkd0 hb7 hsr hst HP5 HC HPa
  go_wp2_with fail
  refine HPr.out.mono ?_
  rintro e w8 ⟨rfl, q8, os8, he8⟩
  have HF := Lib.hid (show Below w.heap.size w w8 from HL7.out.trans ((he8 ▸ below_grown w7 q8 os8 : Below w7.heap.size w7 w8).mono HL7.out.size))
  clear he8
  go_wp2
  rw [HEE.out]
  exact ⟨rfl, HF.out⟩
end Go.Proofs.YtjkiehmjffgnlaaGreatDoor
namespace Go.Proofs.YtjkiehmjffgnlaaGreatDoor
set_option linter.unusedVariables false
set_option linter.unusedSimpArgs false
open Go.RowKit

structure Rw where
  v : Value
  d : List NodeD
def updR (P : Fin 3 → Rw) (i : Fin 3) (x : Rw) : Fin 3 → Rw := fun j => if j = i then x else P j
theorem updR_same (P : Fin 3 → Rw) (i : Fin 3) (x : Rw) : updR P i x i = x := if_pos rfl
theorem updR_ne (P : Fin 3 → Rw) {i j : Fin 3} (h : j ≠ i) (x : Rw) : updR P i x j = P j := if_neg h
structure RSt (B : Nat) (P : Fin 3 → Rw) (w0 w : World) : Prop where
  row : ∀ i, KRow B (P i).v (P i).d w
  offv : ∀ i j, i ≠ j → ∀ k, (P i).v.ownBlock = some k → (P j).v.ownBlock ≠ some k
  bare : ∀ i, ∀ p ∈ (P i).d, ∃ k, p = bareD k
  base : Below B w0 w
  size : B ≤ w.heap.size
theorem RSt.put {B : Nat} {P : Fin 3 → Rw} {w0 w : World} (h : RSt B P w0 w) (i : Fin 3) {k : KeyT} {e : Ending} {w' : World} (ha : PutP B (P i).v (putD (P i).d k) w e w') :
    ∃ x, e = .returned x ∧ RSt B (updR P i ⟨x, putD (P i).d k⟩) w0 w' := by
  obtain ⟨x, he, hr, hg⟩ := ha
  refine ⟨x, he, ?_⟩
  have hnew : ∀ k, x.ownBlock = some k → (P i).v.ownBlock = some k ∨ w.heap.size ≤ k := fun k hk => hg.row.imp (fun e => by rw [← e]; exact hk) fun ⟨j, e, hs⟩ => by rw [e] at hk; injection hk with hk; omega
  have kv : ∀ j, j ≠ i → ∀ g, (P j).v.ownBlock = some g → w'.heap[g]? = w.heap[g]? := fun j hj g e => hg.block g ((h.row j).lt g e).2 (fun e2 => h.offv i j hj.symm g e2.symm e)
  have kB : Below B w w' := hg.low (fun k e => ((h.row i).lt k e).1) h.size
  refine ⟨fun j => ?_, fun a j hne c => ?_, fun a => ?_, h.base.trans kB, Nat.le_trans h.size hg.size⟩
  · by_cases hj : j = i
    · rw [hj, updR_same]; exact hr
    · rw [updR_ne P hj]; exact (h.row j).keep (kv j hj)
  · by_cases ha : a = i
    · have hj : j ≠ i := fun e => hne (ha.trans e.symm)
      rw [ha, updR_same, updR_ne P hj]
      intro e e2
      rcases hnew c e with e | e
      · exact h.offv i j hj.symm c e e2
      · have := ((h.row j).lt c e2).2; omega
    · rw [updR_ne P ha]
      by_cases hj : j = i
      · rw [hj, updR_same]
        intro e e2
        rcases hnew c e2 with e2 | e2
        · exact h.offv a i ha c e e2
        · have := ((h.row a).lt c e).2; omega
      · rw [updR_ne P hj]; exact h.offv a j hne c
  · by_cases ha : a = i
    · rw [ha, updR_same]; exact bare_put (h.bare i)
    · rw [updR_ne P ha]; exact h.bare a
theorem RSt.under {B : Nat} {P : Fin 3 → Rw} {w0 w w' : World} (h : RSt B P w0 w) (hb : Below w.heap.size w w') : RSt B P w0 w' :=
  ⟨fun i => (h.row i).below hb, h.offv, h.bare, h.base.trans (hb.mono h.size), Nat.le_trans h.size hb.size⟩
structure RInv (B : Nat) (l : List ChgT) (i : Nat) (P : Fin 3 → Rw) (w0 w : World) : Prop where
  st : RSt B P w0 w
  m0 : (P 0).d.map (·.x) = doneP (l.take i)
  m1 : (P 1).d.map (·.x) = badP (l.take i)
  m2 : (P 2).d.map (·.x) = othP (l.take i)
  ln : ∀ j, (P j).d.length ≤ i
theorem RInv.start (l : List ChgT) (w : World) : RInv w.heap.size l 0 (fun _ => ⟨.slice none 0 0, []⟩) w w :=
  ⟨⟨fun _ => KRow.nil _ _, (fun _ _ _ k e => by cases e), (fun _ p hp => by cases hp), Below.refl _ _, Nat.le_refl _⟩, rfl, rfl, rfl, fun _ => Nat.le_refl _⟩
section
variable {B : Nat} {l : List ChgT} {i : Nat} {P P' : Fin 3 → Rw} {w0 w w' : World} {c : ChgT}
theorem RInv.bad (h : RInv B l i P w0 w) (hc : l[i]? = some c) (hp : protK (keyN c.value) = true) (hs : RSt B P' w0 w') (q0 : (P' 0).d = putD (P 0).d (keyN c.value)) (q1 : (P' 1).d = putD (P 1).d (keyN c.value)) (q2 : (P' 2).d = (P 2).d) : RInv B l (i + 1) P' w0 w' := by
  refine ⟨hs, ?_, ?_, ?_, fun j => ?_⟩
  · rw [q0, putD_map, h.m0, doneP_at hc]
  · rw [q1, putD_map, h.m1, badP_at hc, if_pos hp]
  · rw [q2, h.m2, othP_at hc, if_pos hp]
  · have l0 := h.ln 0
    have l1 := h.ln 1
    have l2 := h.ln 2
    rcases fin3 j with rfl | rfl | rfl
    · rw [q0]; have := putD_len (P 0).d (keyN c.value); omega
    · rw [q1]; have := putD_len (P 1).d (keyN c.value); omega
    · rw [q2]; omega
theorem RInv.other (h : RInv B l i P w0 w) (hc : l[i]? = some c) (hp : protK (keyN c.value) = false) (hs : RSt B P' w0 w') (q0 : (P' 0).d = putD (P 0).d (keyN c.value)) (q1 : (P' 1).d = (P 1).d) (q2 : (P' 2).d = putD (P 2).d (keyN c.value)) : RInv B l (i + 1) P' w0 w' := by
  have hf : ¬ (protK (keyN c.value) = true) := by rw [hp]; decide
  refine ⟨hs, ?_, ?_, ?_, fun j => ?_⟩
  · rw [q0, putD_map, h.m0, doneP_at hc]
  · rw [q1, h.m1, badP_at hc, if_neg hf]
  · rw [q2, putD_map, h.m2, othP_at hc, if_neg hf]
  · have l0 := h.ln 0
    have l1 := h.ln 1
    have l2 := h.ln 2
    rcases fin3 j with rfl | rfl | rfl
    · rw [q0]; have := putD_len (P 0).d (keyN c.value); omega
    · rw [q1]; omega
    · rw [q2]; have := putD_len (P 2).d (keyN c.value); omega
end
/-- a list that came in, appended to an empty row of the call's own. -/
theorem fresh_dead {Q : Nat → Prop} {A : Option Addr} {cap : Nat} {ks : List NodeT} {w : World} (h : Tab 5 (NodeP Q) w (.slice A ks.length cap) ks) (hs : ks.length ≤ 1000000000) :
    ∃ v1 d w1, (Builtin.append_ #[22, 22] 22 #[.slice (some ⟨w.heap.size, 0, none⟩) 0 0, .slice A ks.length cap]).run Tryz.prog (w.alloc (.cells #[] 46)) = .ok v1 w1 ∧ d.map (·.x) = ks ∧ KRow w.heap.size v1 d w1 ∧ (∀ p ∈ d, NodeP (fun k => Q k ∧ k < w.heap.size) w1 p.cells p.x) ∧ Below w.heap.size w w1 := by
  obtain ⟨A', cap', rows, hv, n1, n2, n3, n4, n5, n6⟩ := h.flat
  injection hv with hv1 hv2 hv3
  subst hv1 hv3
  obtain ⟨d, h1, h2, h3⟩ := nodes_of ks rows n3 n5
  have h0 : OwnT 46 5 w.heap.size [] (.slice (some ⟨w.heap.size, 0, none⟩) 0 0) (w.alloc (.cells #[] 46)) := OwnT.made _ w #[] 0 (Nat.le_refl _) (Nat.zero_le _) rfl
  have hba : Below w.heap.size w (w.alloc (.cells #[] 46)) := (Below.refl _ _).alloc (Nat.le_refl _) _
  obtain ⟨v1, w1, run1, o1, b1, g1, p1⟩ := run_appT elemN 22 h0 A ks.length cap (news := rows) n3 n1 n4 (fun hne => by
    obtain ⟨b, o, hA, hb, hc⟩ := n6 (fun e => hne (List.eq_nil_of_length_eq_zero (by rw [n3, e]; rfl)))
    exact ⟨b, o, hA, fun j r hr k u hu => by rw [cell_eq (hba.block b hb)]; exact hc j r hr k u hu⟩) (fun r hr u hu => by
      rw [← h1] at hr
      obtain ⟨p, -, rfl⟩ := List.mem_map.1 hr
      exact encD.one p u hu) (by simp only [List.length_nil]; omega) hba.size
  exact ⟨v1, d, w1, run1, h2, by unfold KRow; rw [h1]; exact o1, (fun p hp => (h3 p hp).move ⟨(hba.trans b1).size, fun k hk _ => ⟨hk, (hba.trans b1).block k hk.2⟩⟩), hba.trans b1⟩
theorem nowP_step {X : List NodeT} {l : List ChgT} {i : Nat} {c : ChgT} (h : l[i]? = some c) : nowP X (l.take (i + 1)) = stepP (nowP X (l.take i)) c := by
  unfold nowP; rw [take_at h, List.foldl_append]; rfl
end Go.Proofs.YtjkiehmjffgnlaaGreatDoor
namespace Go.Proofs.YtjkiehmjffgnlaaGreatDoor
set_option linter.unusedVariables false
set_option linter.unusedSimpArgs false
open Go.RowKit

theorem pick_least {out M1 M2 : List NodeT} {x : NodeT} (h1 : ∀ y ∈ M1, leN y x = false) (h2 : ∀ y ∈ M2, leN x y = true) (hs : Srt leN out) (hb : ∀ a ∈ out, ∀ y ∈ M1 ++ x :: M2, leN a y = true) :
    Srt leN (out ++ [x]) ∧ (∀ a ∈ out ++ [x], ∀ y ∈ M1 ++ M2, leN a y = true) ∧ Stab leN (out ++ (M1 ++ x :: M2)) ((out ++ [x]) ++ (M1 ++ M2)) := by
  refine ⟨hs.app (List.pairwise_singleton _ _) fun a ha y hy => by rw [List.mem_singleton.1 hy]; exact hb a ha x (by simp), fun a ha y hy => ?_, ?_⟩
  · rcases List.mem_append.1 ha with ha | ha
    · refine hb a ha y ?_
      rcases List.mem_append.1 hy with hy | hy <;> simp [hy]
    · rw [List.mem_singleton.1 ha]
      rcases List.mem_append.1 hy with hy | hy
      · exact leN_ok.of_not (h1 y hy)
      · exact h2 y hy
  · have e1 : out ++ (M1 ++ x :: M2) = out ++ ((M1 ++ [x]) ++ M2) := by simp
    have e2 : (out ++ [x]) ++ (M1 ++ M2) = out ++ (([x] ++ M1) ++ M2) := by simp
    rw [e1, e2]
    exact (Stab.refl out).app ((Stab.exch leN_ok fun y hy z hz => by rw [List.mem_singleton.1 hz]; exact h1 y hy).app (Stab.refl M2))
def BestD (d : List NodeD) (k a : Nat) (p : NodeD) : Prop :=
  a < k ∧ d[a]? = some p ∧ (∀ j q, j < a → d[j]? = some q → ltK (keyD p) (keyD q)) ∧ ∀ j q, a < j → j < k → d[j]? = some q → ¬ ltK (keyD q) (keyD p)
theorem BestD.start {d : List NodeD} {p : NodeD} (h : d[0]? = some p) : BestD d 1 0 p :=
  ⟨Nat.zero_lt_one, h, (fun j _ hj => by omega), fun j _ h1 h2 => by omega⟩
theorem BestD.keep {d : List NodeD} {k a : Nat} {p q : NodeD} (h : BestD d k a p) (hq : d[k]? = some q) (hn : ¬ ltK (keyD q) (keyD p)) : BestD d (k + 1) a p := by
  obtain ⟨h1, h2, h3, h4⟩ := h
  refine ⟨by omega, h2, h3, fun j r hj hk hr => ?_⟩
  by_cases e : j = k
  · subst e
    rw [hq] at hr
    injection hr with hr
    subst hr
    exact hn
  · exact h4 j r hj (by omega) hr
theorem ltK_or {a b c : KeyT} (h1 : ltK a b) (h2 : ¬ ltK c b) : ltK a c := by
  rcases ltK_tri b c with h | h | h
  · exact ltK_trans h1 h
  · rw [← h]; exact h1
  · exact absurd h h2
theorem BestD.next {d : List NodeD} {k a : Nat} {p q : NodeD} (h : BestD d k a p) (hq : d[k]? = some q) (hn : ltK (keyD q) (keyD p)) : BestD d (k + 1) k q := by
  obtain ⟨h1, h2, h3, h4⟩ := h
  refine ⟨by omega, hq, fun j r hj hr => ?_, fun j r hj hk => by omega⟩
  rcases Nat.lt_trichotomy j a with h | h | h
  · exact ltK_trans hn (h3 j r h hr)
  · subst h
    rw [h2] at hr
    injection hr with hr
    subst hr
    exact hn
  · exact ltK_or hn (h4 j r h hj hr)
def SelI (S : List NodeT) (out now : List NodeD) : Prop := Srt leN (out.map (·.x)) ∧ (∀ a ∈ out.map (·.x), ∀ y ∈ now.map (·.x), leN a y = true) ∧ Stab leN S ((out ++ now).map (·.x))
theorem SelI.start {S : List NodeT} {d : List NodeD} (h : d.map (·.x) = S) : SelI S [] d := ⟨List.Pairwise.nil, (fun a ha => by cases ha), by rw [List.nil_append, h]; exact Stab.refl _⟩
theorem SelI.done {S : List NodeT} {d : List NodeD} (h : SelI S d []) : Srt leN (d.map (·.x)) ∧ Stab leN S (d.map (·.x)) := ⟨h.1, by have := h.2.2; rwa [List.append_nil] at this⟩
theorem split_at {α : Type} : ∀ (d : List α) (a : Nat) (p : α), d[a]? = some p → d = d.take a ++ p :: d.drop (a + 1)
  | x :: d, 0, p, h => by injection h with h; rw [h]; rfl
  | x :: d, a + 1, p, h => by
    have := split_at d a p h
    rw [List.take_succ_cons, List.drop_succ_cons, List.cons_append, ← this]
  | [], a, p, h => by cases h
theorem SelI.pick {S : List NodeT} {out now : List NodeD} {a : Nat} {p : NodeD} (h : SelI S out now) (hb : BestD now now.length a p) : SelI S (out ++ [p]) (now.take a ++ now.drop (a + 1)) := by
  obtain ⟨h1, h2, h3⟩ := h
  obtain ⟨b1, b2, b3, b4⟩ := hb
  have hs := split_at now a p b2
  have m1 : ∀ y ∈ (now.take a).map (·.x), leN y p.x = false := by
    intro y hy
    obtain ⟨q, hq, rfl⟩ := List.mem_map.1 hy
    obtain ⟨j, hj, hjq⟩ := List.mem_iff_getElem.1 hq
    have hja : j < a := by rw [List.length_take] at hj; omega
    have e : now[j]? = some q := by rw [List.getElem_take] at hjq; rw [← hjq]; exact List.getElem?_eq_getElem _
    have := b3 j q hja e
    rw [Bool.eq_false_iff]
    intro h
    exact leN_iff.1 h this
  have m2 : ∀ y ∈ (now.drop (a + 1)).map (·.x), leN p.x y = true := by
    intro y hy
    obtain ⟨q, hq, rfl⟩ := List.mem_map.1 hy
    obtain ⟨j, hj, hjq⟩ := List.mem_iff_getElem.1 hq
    rw [List.length_drop] at hj
    have e : now[a + 1 + j]? = some q := by rw [List.getElem_drop] at hjq; rw [← hjq]; exact List.getElem?_eq_getElem _
    exact leN_iff.2 (b4 (a + 1 + j) q (by omega) (by omega) e)
  have e1 : now.map (·.x) = (now.take a).map (·.x) ++ p.x :: (now.drop (a + 1)).map (·.x) := by
    conv => lhs; rw [hs]
    rw [List.map_append, List.map_cons]
  rw [e1] at h2
  obtain ⟨r1, r2, r3⟩ := pick_least m1 m2 h1 h2
  refine ⟨by rw [List.map_append]; exact r1, by rw [List.map_append, List.map_append]; exact r2, ?_⟩
  rw [List.map_append, e1] at h3
  have := h3.trans r3
  rwa [← List.map_append, show (out.map (·.x)) ++ [p.x] = (out ++ [p]).map (·.x) by rw [List.map_append]; rfl, ← List.map_append] at this
structure SelM (B0 B : Nat) (vo : Value) (out : List NodeD) (vn : Value) (now : List NodeD) (w0 w : World) : Prop where
  ro : KRow B vo out w
  rn : KRow B vn now w
  off : ∀ k, vo.ownBlock = some k → vn.ownBlock ≠ some k
  lo : LowD B0 w out
  ln : LowD B0 w now
  base : Below B w0 w
  size : B ≤ w.heap.size
  lt : B0 ≤ B
theorem SelM.under {B0 B : Nat} {vo vn : Value} {out now : List NodeD} {w0 w w' : World} (h : SelM B0 B vo out vn now w0 w) (hb : Below w.heap.size w w') : SelM B0 B vo out vn now w0 w' :=
  have hl : Below B0 w w' := hb.mono (Nat.le_trans h.lt h.size)
  ⟨h.ro.below hb, h.rn.below hb, h.off, h.lo.below hl, h.ln.below hl, h.base.trans (hb.mono h.size), Nat.le_trans h.size hb.size, h.lt⟩
theorem SelM.block {B0 B : Nat} {vo vn : Value} {out now : List NodeD} {w0 w : World} (h : SelM B0 B vo out vn now w0 w) (hne : now ≠ []) : ∃ g cap, vn = .slice (some ⟨g, 0, none⟩) now.length cap ∧ now.length ≤ cap ∧ cap ≤ maxLen ∧ g < w.heap.size ∧ vo.ownBlock ≠ some g := by
  obtain ⟨A, cap, hv, h1, h2, h3⟩ := h.rn.slice
  obtain ⟨g, hA⟩ := h3 hne
  subst hA hv
  exact ⟨g, cap, rfl, h1, h2, (h.rn.lt g rfl).2, fun e => h.off g e rfl⟩
theorem KRow.cellsAt {B g n cap : Nat} {d : List NodeD} {w : World} (h : KRow B (.slice (some ⟨g, 0, none⟩) n cap) d w) {j : Nat} {p : NodeD} (hj : d[j]? = some p) :
    w.cell? ⟨g, j * 5, none⟩ = some (.string ⟨p.x.text.toArray⟩) ∧ w.cell? ⟨g, j * 5 + 1, none⟩ = some (.string ⟨p.x.space.toArray⟩) ∧ w.cell? ⟨g, j * 5 + 2, none⟩ = some (.string ⟨p.x.name.toArray⟩) ∧ w.cell? ⟨g, j * 5 + 3, none⟩ = some (.slice p.aA p.am p.ac) ∧ w.cell? ⟨g, j * 5 + 4, none⟩ = some (.slice p.kA p.km p.kc) := by
  have hr : (d.map NodeD.cells)[j]? = some p.cells := by rw [List.getElem?_map, hj]; rfl
  exact ⟨OwnT.cellAt h rfl hr (k := 0) rfl, OwnT.cellAt h rfl hr (k := 1) rfl, OwnT.cellAt h rfl hr (k := 2) rfl, OwnT.cellAt h rfl hr (k := 3) rfl, OwnT.cellAt h rfl hr (k := 4) rfl⟩
theorem SelM.take {B0 B : Nat} {vo vn : Value} {out now : List NodeD} {w0 w : World} (h : SelM B0 B vo out vn now w0 w) {p : NodeD} (hp : p ∈ now) (hl : out.length ≤ 1000000000) (w2 : World) (hw2 : w2 = w.alloc (.cells #[.string ⟨p.x.text.toArray⟩, .string ⟨p.x.space.toArray⟩, .string ⟨p.x.name.toArray⟩, .slice p.aA p.am p.ac, .slice p.kA p.km p.kc] 46 (0, 0))) :
    ∃ v9 w9, (Builtin.append_ #[22, 22] 22 #[vo, .slice (some ⟨w.heap.size, 0, none⟩) 1 1]).run Tryz.prog w2 = .ok v9 w9 ∧ SelM B0 B v9 (out ++ [p]) vn now w0 w9 := by
  subst hw2
  have hal : Below w.heap.size w (w.alloc (.cells #[.string ⟨p.x.text.toArray⟩, .string ⟨p.x.space.toArray⟩, .string ⟨p.x.name.toArray⟩, .slice p.aA p.am p.ac, .slice p.kA p.km p.kc] 46 (0, 0))) := (Below.refl _ _).alloc (Nat.le_refl _) _
  have hqn := heap_alloc_new w (.cells #[.string ⟨p.x.text.toArray⟩, .string ⟨p.x.space.toArray⟩, .string ⟨p.x.name.toArray⟩, .slice p.aA p.am p.ac, .slice p.kA p.km p.kc] 46 (0, 0))
  have h2 := h.under hal
  obtain ⟨v9, w9, run9, o9, bb9, g9, p9⟩ := run_appT elemN 22 h2.ro (some ⟨w.heap.size, 0, none⟩) 1 1 (news := [p.cells]) rfl (Nat.le_refl _) (fun r hr => by rw [List.mem_singleton.1 hr]; rfl) (fun _ => ⟨_, 0, rfl, fun j r hr c u hu => by
    match j, hr with
    | 0, hr =>
      injection hr with hr
      subst hr
      rw [Nat.zero_mul, Nat.zero_add, Nat.zero_add]
      simp only [World.cell?, hqn]
      rw [← hu]
      simp [NodeD.cells]
    | j + 1, hr => simp at hr⟩) (fun r hr u hu => by rw [List.mem_singleton.1 hr] at hu; exact encD.one _ u hu) (by rw [List.length_map]; omega) h2.size
  have hl9 : Below B0 (w.alloc (.cells #[.string ⟨p.x.text.toArray⟩, .string ⟨p.x.space.toArray⟩, .string ⟨p.x.name.toArray⟩, .slice p.aA p.am p.ac, .slice p.kA p.km p.kc] 46 (0, 0))) w9 := bb9.mono h.lt
  refine ⟨v9, w9, run9, by unfold KRow; rw [List.map_append]; exact o9, h2.rn.keep (fun g e => g9.block g (h2.rn.lt g e).2 (fun e2 => h.off g e2.symm e)), fun k e => ?_, fun x hx => ?_, h2.ln.below hl9, h2.base.trans bb9, Nat.le_trans h2.size bb9.size, h.lt⟩
  · rcases p9 with e9 | e9
    · exact h.off k (by rw [← e9]; exact e)
    · rw [e9] at e
      injection e with e
      intro e2
      have := (h2.rn.lt k e2).2
      omega
  · rcases List.mem_append.1 hx with hx | hx
    · exact h2.lo.below hl9 x hx
    · rw [List.mem_singleton.1 hx]
      exact h2.ln.below hl9 p hp
theorem app_sub {B B1 g n cap : Nat} {d e : List NodeD} {v : Value} {w : World} (h : KRow B (.slice (some ⟨g, 0, none⟩) n cap) d w) (hv : KRow B1 v e w) (hB : B1 ≤ w.heap.size) (j m cap2 : Nat) (A : Option Addr) (hA : 0 < m → A = some ⟨g, j * 5, none⟩) (hm : ((d.drop j).take m).length = m) (hc : m ≤ cap2) (hl : e.length + m ≤ 1000000000) :
    ∃ v9 w9, (Builtin.append_ #[22, 22] 22 #[v, .slice A m cap2]).run Tryz.prog w = .ok v9 w9 ∧ KRow B1 v9 (e ++ (d.drop j).take m) w9 ∧ Below B1 w w9 := by
  obtain ⟨v9, w9, run9, o9, bb9, -, -⟩ := run_appT elemN 22 hv A m cap2 (news := ((d.drop j).take m).map NodeD.cells) (by rw [List.length_map]; exact hm) hc (fun r hr => by
      obtain ⟨p, -, rfl⟩ := List.mem_map.1 hr
      rfl) (fun hne => ⟨g, j * 5, hA (Nat.pos_of_ne_zero fun e => hne (by rw [List.map_eq_nil_iff]; exact List.eq_nil_of_length_eq_zero (hm.trans e))), fun i r hr k u hu => by
        have hi : i < m := by
          have := (List.getElem?_eq_some_iff.1 hr).1
          rw [List.length_map, hm] at this
          exact this
        rw [List.getElem?_map, List.getElem?_take, if_pos hi, List.getElem?_drop, ← List.getElem?_map] at hr
        have := OwnT.cellAt h rfl hr hu
        rw [show j * 5 + (i * 5 + k) = (j + i) * 5 + k by omega]
        exact this⟩) (fun r hr u hu => by
        obtain ⟨p, -, rfl⟩ := List.mem_map.1 hr
        exact encD.one _ u hu) (by rw [List.length_map]; omega) hB
  exact ⟨v9, w9, run9, by unfold KRow; rw [List.map_append]; exact o9, bb9⟩
theorem SelM.cut {B0 B g cap : Nat} {vo : Value} {out now : List NodeD} {w0 w : World} (h : SelM B0 B vo out (.slice (some ⟨g, 0, none⟩) now.length cap) now w0 w) {a : Nat} (ha : a < now.length) (hc : now.length ≤ cap) (hl : now.length ≤ 1000000000) (w2 : World) (hw2 : Below w.heap.size w w2) (hk : KRow w.heap.size (.slice (some ⟨w.heap.size, 0, none⟩) 0 0) [] w2) :
    ∃ v3 w3, (Builtin.append_ #[22, 22] 22 #[.slice (some ⟨w.heap.size, 0, none⟩) 0 0, .slice (some ⟨g, 0, none⟩) a cap]).run Tryz.prog w2 = .ok v3 w3 ∧ ∀ w4, Below w3.heap.size w3 w4 → ∃ v5 w5, (Builtin.append_ #[22, 22] 22 #[v3, .slice (if cap = a + 1 then some ⟨g, 0, none⟩ else some ⟨g, (a + 1) * 5, none⟩) (now.length - (a + 1)) (cap - (a + 1))]).run Tryz.prog w4 = .ok v5 w5 ∧ SelM B0 B vo out v5 (now.take a ++ now.drop (a + 1)) w0 w5 := by
  have h2 := h.under hw2
  obtain ⟨v3, w3, run3, k3, b3⟩ := app_sub h2.rn hk hw2.size 0 a cap (some ⟨g, 0, none⟩) (fun _ => by rw [Nat.zero_mul]) (by rw [List.drop_zero, List.length_take]; omega) (by omega) (by simp only [List.length_nil]; omega)
  rw [List.drop_zero, List.nil_append] at k3
  refine ⟨v3, w3, run3, fun w4 hb4 => ?_⟩
  have bw3 : Below w.heap.size w w3 := hw2.trans b3
  have hb4' : Below w.heap.size w w4 := bw3.trans (hb4.mono bw3.size)
  have h4 := h.under hb4'
  obtain ⟨v5, w5, run5, k5, b5⟩ := app_sub h4.rn (k3.below hb4) hb4'.size (a + 1) (now.length - (a + 1)) (cap - (a + 1)) (if cap = a + 1 then some ⟨g, 0, none⟩ else some ⟨g, (a + 1) * 5, none⟩) (fun h => if_neg (by omega)) (by rw [List.length_take, List.length_drop]; omega) (by omega) (by rw [List.length_take]; omega)
  have et : (now.drop (a + 1)).take (now.length - (a + 1)) = now.drop (a + 1) := List.take_of_length_le (by rw [List.length_drop]; exact Nat.le_refl _)
  rw [et] at k5
  have b5' : Below w.heap.size w w5 := hb4'.trans b5
  have h5 := h.under b5'
  refine ⟨v5, w5, run5, h5.ro, k5.mono h.size, fun k e e2 => ?_, h5.lo, fun x hx => ?_, h5.base, h5.size, h.lt⟩
  · have h1 := (h.ro.lt k e).2
    have h2 := (k5.lt k e2).1
    omega
  · rcases List.mem_append.1 hx with hx | hx
    · exact h5.ln x (List.mem_of_mem_take hx)
    · exact h5.ln x (List.mem_of_mem_drop hx)
end Go.Proofs.YtjkiehmjffgnlaaGreatDoor
namespace Go.Proofs.YtjkiehmjffgnlaaGreatDoor
set_option linter.unusedVariables false
set_option linter.unusedSimpArgs false
open Go.RowKit

theorem fullP_none (p : PartT) (s : Int) : fullP [p, ⟨s, []⟩] = fullP [p] := by
  unfold fullP
  rw [List.filter_cons, List.filter_cons, List.filter_cons]
  simp
set_option maxHeartbeats 32000000 in
set_option maxRecDepth 100000 in
set_option linter.unusedSimpArgs false in
theorem rpatch_any (dA : Option Addr) (dc : Nat) (dead : List NodeT) (lA : Option Addr) (lc : Nat) (l : List ChgT) (w : World) (hd : Tab 5 (NodeP anyB) w (.slice dA dead.length dc) dead) (hz : dA = none → dead.length = 0 ∧ dc = 0) (hl : Tab 6 (ChgR anyB) w (.slice lA l.length lc) l) (hds : dead.length ≤ 10000000) (hls : l.length ≤ 10000000) :
    Calls Tryz.prog 9 #[.slice dA dead.length dc, .slice lA l.length lc] w (PatchP dead l w) := by
  obtain ⟨E, hEE⟩ : ∃ E, E = PatchP dead l w := ⟨_, rfl⟩
  rw [← hEE]
  have HEE := Lib.hid hEE
  obtain ⟨-, hlc, hlm, hlk⟩ := chg_at hl
  unfold maxLen at hlm
  have HLk := Lib.hid hlk
  have HDt := Lib.hid hd
  have HL := Lib.hid hl
  have HZ := Lib.hid hz
  clear hEE hd hl hlk hz
  go_enter Tryz.func9, Tryz.ntmps9
  go_wp2_with fail
  go_loopg [7, 8, 9, 10] l.length (fun gk v7 v8 v9 v10 wr => ∃ (i : Nat) (P : Fin 3 → Rw), i + gk = l.length ∧ v10 = .int .i64 i ∧ v7 = (P 0).v ∧ v8 = (P 1).v ∧ v9 = (P 2).v ∧ Hid (RInv w.heap.size l i P w wr))
  case atStart => exact ⟨0, _, by omega, rfl, rfl, rfl, rfl, Lib.hid (RInv.start l w)⟩
  case round =>
    obtain ⟨i, P, hig, rfl, rfl, rfl, rfl, HP⟩ := hrel
    rcases hdr : l.drop i with _ | ⟨c, rest⟩
    · have hi2 : i = l.length := by have := drop_nil hdr; omega
      subst hi2
      have m0 := HP.out.m0
      have m1 := HP.out.m1
      have m2 := HP.out.m2
      rw [List.take_length] at m0 m1 m2
      obtain ⟨A0, p0, hv0, hl0, hq0, -⟩ := (HP.out.st.row 0).slice
      obtain ⟨A1, p1, hv1, hl1, hq1, -⟩ := (HP.out.st.row 1).slice
      obtain ⟨A2, p2, hv2, hl2, hq2, -⟩ := (HP.out.st.row 2).slice
      unfold maxLen at hq0 hq1 hq2
      have k1 : ¬ ((l.length : Int) < l.length) := by omega
      rw [hv0, hv1, hv2]
      have HV0 := Lib.hid hv0
      have HV1 := Lib.hid hv1
      have HV2 := Lib.hid hv2
      clear hv0 hv1 hv2 hdr
      rcases hbe : badP l with _ | ⟨bn, br⟩
      · have k3 : ¬ (0 : Int) < ((P 1).d.length : Int) := by
          have h := congrArg List.length m1
          rw [hbe, List.length_map] at h
          simp only [List.length_nil] at h
          omega
        have HM0 := Lib.hid m0
        have HBe := Lib.hid hbe
        clear m0 m1 m2 hbe
        have hbw := HP.out.st.base
        obtain ⟨v1, d1, w1, run1, hd1, hk1, hn1, hb1⟩ := fresh_dead (Q := fun k => k < w.heap.size) (TabP.move (R' := NodeP (fun k => k < w.heap.size)) (P := anyB) (Q := anyB) ⟨HDt.out, fun _ _ _ => trivial⟩ (Moves.below hbw fun _ _ _ => trivial) (fun cs x _ hx => hx.move ⟨hbw.size, fun k _ hk => ⟨hk, hbw.block k hk⟩⟩)).1 (by omega)
        have HR1 := Lib.hid run1
        go_upto_block 14 with (at_builtin; refine wpList_app_run (by rfl) _ _ rfl rfl rfl HR1.out ?_)
        have HM := Lib.hid HP
        have hN0 : d1.map (·.x) = nowP dead (l.take 0) ∧ KRow wr.heap.size v1 d1 w1 ∧ LowD w.heap.size w1 d1 ∧ Below wr.heap.size wr w1 := ⟨hd1, hk1, (fun p hp => (hn1 p hp).move (Moves.same _ fun k hk _ => hk.1)), hb1⟩
        have hdl1 : d1.length ≤ dead.length := by rw [← hd1, List.length_map]; exact Nat.le_refl _
        have HN0 := Lib.hid hN0
        have HWs := Lib.hid (show w.heap.size ≤ wr.heap.size from hbw.size)
        have HBw := Lib.hid hbw
        clear run1 hd1 hk1 hn1 hb1 hN0 HR1 hbw
        obtain ⟨Wp, hWp⟩ : ∃ Wp, Wp = wr := ⟨_, rfl⟩
        rw [← hWp] at HN0 HWs HBw
        have HPp := Lib.hid (hWp ▸ HP.out)
        clear hWp HM HP
        go_loopg [12, 13] l.length (fun gk v12 v13 wr => ∃ (i : Nat) (d : List NodeD), i + gk = l.length ∧ v13 = .int .i64 i ∧ d.length ≤ dead.length + i ∧ Hid (d.map (·.x) = nowP dead (l.take i) ∧ KRow Wp.heap.size v12 d wr ∧ LowD w.heap.size wr d ∧ Below Wp.heap.size Wp wr))
        case atStart => exact ⟨0, d1, by omega, rfl, by omega, HN0⟩
        case round =>
          obtain ⟨i, d, hig, rfl, hdl, HNw⟩ := hrel
          rcases hdr : l.drop i with _ | ⟨c, rest⟩
          · have hi2 : i = l.length := by have := drop_nil hdr; omega
            subst hi2
            obtain ⟨g1, g2, g3, g4⟩ := HNw.out
            rw [List.take_length] at g1
            have k1 : ¬ ((l.length : Int) < l.length) := by omega
            have hd2 : d.length ≤ 20000000 := by omega
            have HSI := Lib.hid (SelI.start g1)
            have HSM := Lib.hid (show SelM w.heap.size Wp.heap.size (.slice none 0 0) [] u12 d Wp wr from ⟨KRow.nil _ _, g2, (fun k e => by cases e), (fun x hx => by cases hx), g3, g4, g4.size, HWs.out⟩)
            obtain ⟨A12, c12, hu12, hl12, hq12, -⟩ := g2.slice
            subst hu12
            clear hdr g1 g2 g3 g4 HNw hl12 hq12 hdl hdl1 HDt HLk HL HBw HWs
            go_wp2_with fail
            clear k1
            go_loopg [12, 17] d.length (fun gk v12 v17 wr => ∃ (A : Option Addr) (c : Nat) (now out : List NodeD), v12 = .slice A now.length c ∧ out.length + now.length ≤ 20000000 ∧ Hid (now.length = gk) ∧ Hid (SelI (nowP dead l) out now) ∧ Hid (SelM w.heap.size Wp.heap.size v17 out (.slice A now.length c) now Wp wr))
            case atStart => exact ⟨A12, c12, d, [], rfl, by simp only [List.length_nil]; omega, Lib.hid rfl, HSI, HSM⟩
            case round =>
              obtain ⟨A, c, now, out, rfl, hon, HG, HI, HM⟩ := hrel
              rcases Nat.eq_zero_or_pos now.length with h0 | h0
              · have hnn : now = [] := List.eq_nil_of_length_eq_zero h0
                subst hnn
                clear h0
                obtain ⟨hs1, hs2⟩ := HI.out.done
                obtain ⟨Ao, co, hvo, hoz⟩ : ∃ Ao co, u17 = .slice Ao out.length co ∧ (Ao = none → (out.map (·.x)).length = 0 ∧ co = 0) := by
                  rcases HM.out.ro.form with ⟨e1, rfl⟩ | ⟨g, cap, e1, -⟩
                  · exact ⟨none, 0, e1, fun _ => ⟨rfl, rfl⟩⟩
                  · exact ⟨_, cap, e1, fun e => by cases e⟩
                have HPr := Lib.hid (parts_any ⟨200, A0, (P 0).d.length, p0⟩ ⟨0, none, 0, 0⟩ wr)
                have hoN : NodesP anyB wr (.slice Ao (out.map (·.x)).length co) (out.map (·.x)) := by rw [List.length_map, ← hvo]; exact HM.out.ro.nodes HM.out.lo.hang
                have HON := Lib.hid hoN
                have HOz := Lib.hid hoz
                have HBs := Lib.hid HM.out.base
                have HSr := Lib.hid hs1
                have HSt := Lib.hid hs2
                subst hvo
                clear hs1 hs2 hoz hoN HI HM HG
                go_wp2_with fail
                refine HPr.out.mono ?_
                rintro e w7 ⟨pv, rfl, hkp, hb7⟩
                have hS7 := HPp.out.st.under (HBs.out.trans (hb7.mono HBs.out.size))
                have HF := Lib.hid (show PatchP dead l w (.returned (.tuple #[.slice Ao out.length co, pv, .bool true])) w7 from
                  ⟨Ao, co, out.map (·.x), pv, fullP [⟨200, doneP l⟩], true, by rw [List.length_map], HON.out.under hb7, HOz.out, by
                    rw [← HM0.out, ← fullP_none _ 0]
                    refine parts_full (Z := [(⟨200, A0, (P 0).d.length, p0⟩, ⟨200, (P 0).d.map (·.x)⟩), (⟨0, none, 0, 0⟩, ⟨0, []⟩)]) hkp (fun z hz => ?_)
                    simp only [List.mem_cons, List.not_mem_nil, or_false] at hz
                    rcases hz with rfl | rfl
                    · exact ⟨rfl, by rw [List.length_map], HV0.out ▸ (hS7.row 0).nodes (bare_hang (hS7.bare 0) w7)⟩
                    · exact ⟨rfl, rfl, (KRow.nil 0 w7).nodes (fun p hp => by cases hp)⟩, hS7.base, (fun _ => ⟨rfl, HSr.out, HSt.out, rfl⟩), fun h => absurd HBe.out h⟩)
                clear hkp hb7 hS7 HPr
                go_wp2
                go_ret3
                rw [HEE.out]
                exact HF.out
              · have hnn : now ≠ [] := fun e => by rw [e] at h0; exact Nat.lt_irrefl 0 h0
                obtain ⟨g, cap, hv, hnc, hcm, hgl, hog⟩ := HM.out.block hnn
                injection hv with hA hc1 hc2
                subst hA hc2
                clear hc1 hnn
                unfold maxLen at hcm
                have k1 : (0 : Int) < now.length := by omega
                generalize wr = Wo at *
                go_wp2_with fail
                clear k1
                go_loopg [18, 19] (now.length - 1) (fun gk5 v18 v19 wr => ∃ (k a : Nat) (p : NodeD), k + gk5 = now.length ∧ v19 = .int .i64 k ∧ v18 = .int .i64 a ∧ Hid (BestD now k a p) ∧ Hid (Below Wo.heap.size Wo wr))
                case atStart =>
                  exact ⟨1, 0, now[0], by omega, rfl, rfl, Lib.hid (BestD.start (List.getElem?_eq_getElem h0)), Lib.hid (Below.refl _ _)⟩
                case round =>
                  obtain ⟨k, a, p, hkg, rfl, rfl, HBd, HBo⟩ := hrel
                  have hak := HBd.out.1
                  have hap := HBd.out.2.1
                  have haN : a < now.length := (List.getElem?_eq_some_iff.1 hap).1
                  have HMw := Lib.hid (HM.out.under HBo.out)
                  rcases Nat.lt_or_ge k now.length with hkl | hkl
                  · have hq : now[k]? = some now[k] := List.getElem?_eq_getElem hkl
                    generalize now[k] = q at hq
                    obtain ⟨-, e1, e2, -, -⟩ := HMw.out.rn.cellsAt hq
                    obtain ⟨-, f1, f2, -, -⟩ := HMw.out.rn.cellsAt hap
                    have k1 : (k : Int) < now.length := by omega
                    have k2 : (0 : Int) ≤ k := by omega
                    have k3 : (a : Int) < now.length := by omega
                    have k4 : (0 : Int) ≤ a := by omega
                    have HNx := Lib.hid (HBd.out.next hq)
                    have HKp := Lib.hid (HBd.out.keep hq)
                    have HB2 := Lib.hid (below_draws HBo.out 1)
                    clear hq hap hak
                    obtain ⟨b1, hb1⟩ : ∃ b1, Op.bytesLess q.x.space p.x.space = b1 := ⟨_, rfl⟩
                    obtain ⟨b2, hb2⟩ : ∃ b2, (q.x.space == p.x.space) = b2 := ⟨_, rfl⟩
                    obtain ⟨b3, hb3⟩ : ∃ b3, Op.bytesLess q.x.name p.x.name = b3 := ⟨_, rfl⟩
                    have HLt := Lib.hid (show ltK (keyD q) (keyD p) ↔ (b1 || (b2 && b3)) = true by
                      rw [← hb1, ← hb2, ← hb3, bytesLess_eq, bytesLess_eq, Bool.or_eq_true, Bool.and_eq_true, decide_eq_true_eq, decide_eq_true_eq, beq_iff_eq]
                      exact Iff.rfl)
                    go_upto_region 32 with (fail)
                    cases b1
                    · cases b2
                      · have HBd2 := Lib.hid (HKp.out (fun h => by have := HLt.out.1 h; simp at this))
                        go_big_region
                        all_goals
                          go_wp2
                          go_roundg (gk - 1)
                          case measure => omega
                          case rel => exact ⟨k + 1, a, p, by omega, by go_num, rfl, HBd2, HB2⟩
                      · cases b3
                        · have HBd2 := Lib.hid (HKp.out (fun h => by have := HLt.out.1 h; simp at this))
                          go_big_region
                          all_goals
                            go_wp2
                            go_roundg (gk - 1)
                            case measure => omega
                            case rel => exact ⟨k + 1, a, p, by omega, by go_num, rfl, HBd2, HB2⟩
                        · have HBd2 := Lib.hid (HNx.out (HLt.out.2 rfl))
                          go_big_region
                          all_goals
                            go_wp2
                            go_roundg (gk - 1)
                            case measure => omega
                            case rel => exact ⟨k + 1, k, q, by omega, by go_num, rfl, HBd2, HB2⟩
                    · have HBd2 := Lib.hid (HNx.out (HLt.out.2 rfl))
                      go_big_region
                      all_goals
                        go_wp2
                        go_roundg (gk - 1)
                        case measure => omega
                        case rel => exact ⟨k + 1, k, q, by omega, by go_num, rfl, HBd2, HB2⟩
                  · have hkn : k = now.length := by omega
                    subst hkn
                    have HSp := Lib.hid (HI.out.pick HBd.out)
                    obtain ⟨d0, d1, d2, d3, d4⟩ := HMw.out.rn.cellsAt hap
                    obtain ⟨v9, w9, run9, hM9⟩ := HMw.out.take (List.mem_of_getElem? hap) (by omega) _ rfl
                    have HR9 := Lib.hid run9
                    have HM9 := Lib.hid hM9
                    have hb2 : Below w9.heap.size w9 (w9.alloc (.cells #[] 46)).drew := below_draws ((Below.refl _ _).alloc (Nat.le_refl _) _) 1
                    have HV2 := Lib.hid (hM9.cut haN hnc (by omega) _ hb2 (OwnT.made _ w9 #[] 0 (Nat.le_refl _) (Nat.zero_le _) rfl))
                    have k1 : ¬ ((now.length : Int) < now.length) := by omega
                    have k2 : (0 : Int) ≤ a := by omega
                    have k3 : (a : Int) < now.length := by omega
                    have k4 : (a : Int) ≤ c := by omega
                    have k5 : (a : Int) + 1 ≤ now.length := by omega
                    have k6 : (now.length : Int) ≤ c := by omega
                    have k7 : (0 : Int) ≤ (a : Int) + 1 := by omega
                    have k8 : ((a : Int) + 1).toNat = a + 1 := by omega
                    have k9 : IntKind.i64.wrap ((a : Int) + 1) = (a : Int) + 1 := IntWalk.i64_in _ (by omega)
                    clear hap hak hkg hM9 run9 hb2 hkl
                    go_upto_region 35 with (at_builtin; refine wpList_app_run (by rfl) _ _ rfl rfl rfl HR9.out ?_)
                    clear d0 d1 d2 d3 d4
                    go_region_law (first
                      | (revert HNx; intro HNx; refine step_app_ex (v := v3) (u := .slice (if c = a + 1 then some ⟨g, 0, none⟩ else some ⟨g, (a + 1) * 5, none⟩) (now.length - (a + 1)) (c - (a + 1))) rfl (.tmp 176) (.tmp 180) rfl (by rfl) (by rfl) ?_; obtain ⟨v5, w5, run5, hM5⟩ := HNx.out w3 (Below.refl _ _); with_reducible refine ⟨_, _, run5, ?_⟩)
                      | (refine step_app_ex (v := .slice (some ⟨w9.heap.size, 0, none⟩) 0 0) (u := .slice (some ⟨g, 0, none⟩) a c) rfl (.tmp 172) (.tmp 175) rfl (by rfl) (by rfl) ?_; obtain ⟨v3, w3, run3, hnx⟩ := HV2.out; with_reducible refine ⟨_, _, run3, ?_⟩; have HNx := Lib.hid hnx; clear hnx run3))
                    generalize (if c = a + 1 then some (⟨g, 0, none⟩ : Addr) else some ⟨g, (a + 1) * 5, none⟩) = AX
                    have hln : (now.take a ++ now.drop (a + 1)).length + 1 = now.length := by rw [List.length_append, List.length_take, List.length_drop]; omega
                    have HSq := HSp.out
                    clear run5 HNx HV2 HSp
                    generalize now.take a ++ now.drop (a + 1) = now2 at hM5 HSq hln
                    obtain ⟨A5, c5, hv5, -, -, -⟩ := hM5.rn.slice
                    subst hv5
                    have HM5 := Lib.hid hM5
                    have HSt := Lib.hid hln
                    have HSr := Lib.hid HSq
                    clear hM5 hln HSq
                    go_wp2
                    go_roundg now2.length
                    case measure => have := HSt.out; have := HG.out; omega
                    case rel => exact ⟨A5, c5, now2, out ++ [p], rfl, by have := HSt.out; rw [List.length_append]; simp only [List.length_cons, List.length_nil]; omega, Lib.hid rfl, HSr, HM5⟩
          · obtain ⟨hlt, hx, hr⟩ := drop_consA hdr
            obtain ⟨bl, o, aA, ac, kA, kc, rfl, hbl, c0, c1, c2, c3, c4, c5, hnd⟩ := HLk.out i c hx
            obtain ⟨g1, g2, g3, g4⟩ := HNw.out
            have hbw := HBw.out.trans (g4.mono HWs.out)
            have hbs := hbw.block bl hbl
            have HX := Lib.hid hx
            have HNd := Lib.hid (show NodeP (fun k => k < w.heap.size) w [.string ⟨c.value.text.toArray⟩, .string ⟨c.value.space.toArray⟩, .string ⟨c.value.name.toArray⟩, .slice aA c.value.attrs.length ac, .slice kA c.value.kids.length kc] c.value from hnd.move (Moves.same w fun _ _ hk => hk))
            have HC0 := Lib.hid (fun (W : World) (hW : Below w.heap.size w W) => (show W.cell? ⟨bl, o + i * 6, none⟩ = some (.bool c.remove) from by rw [cell_eq (hW.block bl hbl)]; exact c0))
            have e1 : wr.cell? ⟨bl, o + i * 6 + 1, none⟩ = some (.string ⟨c.value.text.toArray⟩) := by rw [cell_eq hbs]; exact c1
            have e2 : wr.cell? ⟨bl, o + i * 6 + 1 + 1, none⟩ = some (.string ⟨c.value.space.toArray⟩) := by rw [cell_eq hbs]; exact c2
            have e3 : wr.cell? ⟨bl, o + i * 6 + 1 + 2, none⟩ = some (.string ⟨c.value.name.toArray⟩) := by rw [cell_eq hbs]; exact c3
            have e4 : wr.cell? ⟨bl, o + i * 6 + 1 + 3, none⟩ = some (.slice aA c.value.attrs.length ac) := by rw [cell_eq hbs]; exact c4
            have e5 : wr.cell? ⟨bl, o + i * 6 + 1 + 4, none⟩ = some (.slice kA c.value.kids.length kc) := by rw [cell_eq hbs]; exact c5
            have k1 : (i : Int) < l.length := by omega
            have k2 : (0 : Int) ≤ i := by omega
            have hba : Below wr.heap.size wr (wr.alloc (.cells #[.string ⟨c.value.text.toArray⟩, .string ⟨c.value.space.toArray⟩, .string ⟨c.value.name.toArray⟩, .slice aA c.value.attrs.length ac, .slice kA c.value.kids.length kc] 46 (0, 0))) := (Below.refl _ _).alloc (Nat.le_refl _) _
            have HQ2 := Lib.hid (heap_alloc_new wr (.cells #[.string ⟨c.value.text.toArray⟩, .string ⟨c.value.space.toArray⟩, .string ⟨c.value.name.toArray⟩, .slice aA c.value.attrs.length ac, .slice kA c.value.kids.length kc] 46 (0, 0)))
            have HR2 := Lib.hid (g2.below hba)
            have HL2 := Lib.hid (g3.below (hba.mono hbw.size))
            have HB2 := Lib.hid (g4.trans (hba.mono g4.size))
            have HG1 := Lib.hid g1
            obtain ⟨A12, c12, hu12, hl12, hq12, hA12⟩ := g2.slice
            subst hu12
            unfold maxLen at hq12
            have HA12 := Lib.hid hA12
            clear c0 c1 c2 c3 c4 c5 hnd hdr hr hx hbs g1 g2 g3 g4 hba hbw HNw hA12
            go_upto_block 19 with (fail)
            clear e1 e2 e3 e4 e5
            generalize wr.alloc (.cells #[.string ⟨c.value.text.toArray⟩, .string ⟨c.value.space.toArray⟩, .string ⟨c.value.name.toArray⟩, .slice aA c.value.attrs.length ac, .slice kA c.value.kids.length kc] 46 (0, 0)) = W2 at *
            obtain ⟨qn, hqn⟩ : ∃ qn, qn = wr.heap.size := ⟨_, rfl⟩
            rw [← hqn] at HQ2 ⊢
            clear hqn
            generalize wr = Wo at *
            go_loopg [15, 16] d.length (fun gk8 v15 v16 w8 => ∃ (k : Nat) (dl : List NodeD), k + gk8 = d.length ∧ v16 = .int .i64 k ∧ Hid (dl = keepD (keyN c.value) (d.take k)) ∧ dl.length ≤ k ∧ Hid (KRow W2.heap.size v15 dl w8 ∧ Below W2.heap.size W2 w8))
            case atStart => exact ⟨0, [], by omega, rfl, Lib.hid rfl, Nat.le_refl _, Lib.hid ⟨KRow.nil _ _, Below.refl _ _⟩⟩
            case round =>
              obtain ⟨k, dl, hkg, rfl, HDl, hdk, HK⟩ := hrel
              have HQ8 := Lib.hid ((HK.out.2.block _ (xlt HQ2.out)).trans HQ2.out)
              have y0 := xat HQ8.out 0
              have y1 := xat HQ8.out 1
              have y2 := xat HQ8.out 2
              have y3 := xat HQ8.out 3
              have y4 := xat HQ8.out 4
              simp only [List.getElem?_toArray, List.getElem?_cons_zero, List.getElem?_cons_succ] at y0 y1 y2 y3 y4
              rcases hdk2 : d.drop k with _ | ⟨p, rest⟩
              · have hk2 : k = d.length := by have := drop_nil hdk2; omega
                subst hk2
                clear hdk2
                have k5 : ¬ ((d.length : Int) < d.length) := by omega
                have hb2 := HBw.out.trans (HB2.out.mono HWs.out)
                have hbw := hb2.trans (HK.out.2.mono hb2.size)
                have hde : dl = keepD (keyN c.value) d := by rw [HDl.out, List.take_length]
                have hsz2 : Wp.heap.size ≤ W2.heap.size := HB2.out.size
                have hbp : Below Wp.heap.size Wp wr := HB2.out.trans (HK.out.2.mono hsz2)
                have hlow : LowD w.heap.size wr dl := fun x hx => (HL2.out x (by rw [hde] at hx; exact (List.mem_filter.1 hx).1)).move ⟨HK.out.2.size, fun k hk hlt => ⟨hk, HK.out.2.block k (Nat.lt_of_lt_of_le hk hb2.size)⟩⟩
                have hlm := HK.out.1.mono hsz2
                have z0 := HC0.out wr hbw
                obtain ⟨rm, hrm⟩ : ∃ rm, rm = c.remove := ⟨_, rfl⟩
                rw [← hrm] at z0
                have HRm := Lib.hid (show stepP (d.map (·.x)) c = dl.map (·.x) ++ (if rm then [] else [c.value]) by unfold stepP; rw [hde, keepD_map, hrm])
                have hdln : dl.length ≤ d.length := by rw [hde]; exact keepD_len _ _
                cases rm
                · have hal : Below wr.heap.size wr (wr.alloc (.cells #[.string ⟨c.value.text.toArray⟩, .string ⟨c.value.space.toArray⟩, .string ⟨c.value.name.toArray⟩, .slice aA c.value.attrs.length ac, .slice kA c.value.kids.length kc] 46 (0, 0))) := (Below.refl _ _).alloc (Nat.le_refl _) _
                  have hqn := heap_alloc_new wr (.cells #[.string ⟨c.value.text.toArray⟩, .string ⟨c.value.space.toArray⟩, .string ⟨c.value.name.toArray⟩, .slice aA c.value.attrs.length ac, .slice kA c.value.kids.length kc] 46 (0, 0))
                  obtain ⟨v9, w9, run9, o9, bb9, g9, p9⟩ := run_appT elemN 22 (HK.out.1.below hal) (some ⟨wr.heap.size, 0, none⟩) 1 1 (news := [(⟨c.value, aA, c.value.attrs.length, ac, kA, c.value.kids.length, kc⟩ : NodeD).cells]) rfl (Nat.le_refl _) (fun r hr => by rw [List.mem_singleton.1 hr]; rfl) (fun _ => ⟨_, 0, rfl, fun j r hr c u hu => by
                    match j, hr with
                    | 0, hr =>
                      injection hr with hr
                      subst hr
                      rw [Nat.zero_mul, Nat.zero_add, Nat.zero_add]
                      simp only [World.cell?, hqn]
                      rw [← hu]
                      simp [NodeD.cells]
                    | j + 1, hr => simp at hr⟩) (fun r hr u hu => by rw [List.mem_singleton.1 hr] at hu; exact encD.one _ u hu) (by rw [List.length_map]; omega) (Nat.le_trans HK.out.2.size hal.size)
                  have hb9 : Below W2.heap.size wr w9 := (hal.mono HK.out.2.size).trans bb9
                  have hbw9 := hbw.trans (hb9.mono hb2.size)
                  have HR9 := Lib.hid run9
                  have HN9 := Lib.hid (show (dl ++ [(⟨c.value, aA, c.value.attrs.length, ac, kA, c.value.kids.length, kc⟩ : NodeD)]).map (·.x) = nowP dead (l.take (i + 1)) ∧ KRow Wp.heap.size v9 (dl ++ [⟨c.value, aA, c.value.attrs.length, ac, kA, c.value.kids.length, kc⟩]) w9 ∧ LowD w.heap.size w9 (dl ++ [⟨c.value, aA, c.value.attrs.length, ac, kA, c.value.kids.length, kc⟩]) ∧ Below Wp.heap.size Wp w9 from
                    ⟨by rw [nowP_step HX.out, ← HG1.out, HRm.out, List.map_append]; rfl, (show KRow W2.heap.size v9 _ w9 from by unfold KRow; rw [List.map_append]; exact o9).mono hsz2, fun x hx => by
                      rcases List.mem_append.1 hx with hx | hx
                      · exact hlow.below (hb9.mono hb2.size) x hx
                      · rw [List.mem_singleton.1 hx]
                        exact HNd.out.move ⟨hbw9.size, fun k hk _ => ⟨hk, hbw9.block k hk⟩⟩, hbp.trans (hb9.mono hsz2)⟩)
                  clear hal hqn run9 o9 bb9 g9 p9 hb9 hbw9 hb2 hbw hde hbp hlow hlm hrm
                  go_wp2_with (at_builtin; refine wpList_app_run (by rfl) _ _ rfl rfl rfl HR9.out ?_)
                  go_roundg (l.length - (i + 1))
                  case measure => omega
                  case rel => exact ⟨i + 1, _, by omega, by go_num, by rw [List.length_append]; simp only [List.length_cons, List.length_nil]; omega, HN9⟩
                · have HN9 := Lib.hid (show dl.map (·.x) = nowP dead (l.take (i + 1)) ∧ KRow Wp.heap.size u15 dl wr ∧ LowD w.heap.size wr dl ∧ Below Wp.heap.size Wp wr from
                    ⟨by rw [nowP_step HX.out, ← HG1.out, HRm.out]; simp, hlm, hlow, hbp⟩)
                  clear hb2 hbw hde hbp hlow hlm hrm
                  go_wp2
                  go_roundg (l.length - (i + 1))
                  case measure => omega
                  case rel => exact ⟨i + 1, dl, by omega, by go_num, by omega, HN9⟩
              · obtain ⟨hlt2, hx2, hr2⟩ := drop_consA hdk2
                obtain ⟨g, rfl⟩ := HA12.out (by intro e; rw [e] at hlt2; simp at hlt2)
                have hrj : (d.map NodeD.cells)[k]? = some p.cells := by rw [List.getElem?_map, hx2]; rfl
                have hgl : g < W2.heap.size := (HR2.out.lt g rfl).2
                have d0 : wr.cell? ⟨g, k * 5, none⟩ = some (.string ⟨p.x.text.toArray⟩) := (HK.out.2.cell (p := ⟨g, k * 5, none⟩) hgl).trans (OwnT.cellAt HR2.out rfl hrj (k := 0) rfl)
                have d1 : wr.cell? ⟨g, k * 5 + 1, none⟩ = some (.string ⟨p.x.space.toArray⟩) := (HK.out.2.cell (p := ⟨g, k * 5 + 1, none⟩) hgl).trans (OwnT.cellAt HR2.out rfl hrj (k := 1) rfl)
                have d2 : wr.cell? ⟨g, k * 5 + 2, none⟩ = some (.string ⟨p.x.name.toArray⟩) := (HK.out.2.cell (p := ⟨g, k * 5 + 2, none⟩) hgl).trans (OwnT.cellAt HR2.out rfl hrj (k := 2) rfl)
                have d3 : wr.cell? ⟨g, k * 5 + 3, none⟩ = some (.slice p.aA p.am p.ac) := (HK.out.2.cell (p := ⟨g, k * 5 + 3, none⟩) hgl).trans (OwnT.cellAt HR2.out rfl hrj (k := 3) rfl)
                have d4 : wr.cell? ⟨g, k * 5 + 4, none⟩ = some (.slice p.kA p.km p.kc) := (HK.out.2.cell (p := ⟨g, k * 5 + 4, none⟩) hgl).trans (OwnT.cellAt HR2.out rfl hrj (k := 4) rfl)
                have k3 : (k : Int) < d.length := by omega
                have k4 : (0 : Int) ≤ k := by omega
                have HKn := Lib.hid (keep_next (keyN c.value) hx2)
                obtain ⟨b1, hb1⟩ : ∃ b1, (p.x.space == c.value.space) = b1 := ⟨_, rfl⟩
                obtain ⟨b2, hb2⟩ : ∃ b2, (p.x.name == c.value.name) = b2 := ⟨_, rfl⟩
                have hb3 : (p.x.space != c.value.space) = !b1 := by rw [← hb1]; rfl
                have hb4 : (p.x.name != c.value.name) = !b2 := by rw [← hb2]; rfl
                have HKe := Lib.hid (show decide (keyD p = keyN c.value) = (b1 && b2) by
                  rw [← hb1, ← hb2, Bool.eq_iff_iff, Bool.and_eq_true, decide_eq_true_eq, beq_iff_eq, beq_iff_eq]
                  exact Prod.ext_iff)
                clear hdk2 hr2 hx2 hrj hgl
                have hapw : ∀ W, Below wr.heap.size wr W → ∃ v9 w9, (Builtin.append_ #[22, 22] 22 #[u15, .slice (some ⟨W.heap.size, 0, none⟩) 1 1]).run Tryz.prog (W.alloc (.cells #[.string ⟨p.x.text.toArray⟩, .string ⟨p.x.space.toArray⟩, .string ⟨p.x.name.toArray⟩, .slice p.aA p.am p.ac, .slice p.kA p.km p.kc] 46 (0, 0))) = .ok v9 w9 ∧ KRow W2.heap.size v9 (dl ++ [p]) w9 ∧ Below W2.heap.size W2 w9 := fun W hW => by
                  have hal : Below W.heap.size W (W.alloc (.cells #[.string ⟨p.x.text.toArray⟩, .string ⟨p.x.space.toArray⟩, .string ⟨p.x.name.toArray⟩, .slice p.aA p.am p.ac, .slice p.kA p.km p.kc] 46 (0, 0))) := (Below.refl _ _).alloc (Nat.le_refl _) _
                  have hqn := heap_alloc_new W (.cells #[.string ⟨p.x.text.toArray⟩, .string ⟨p.x.space.toArray⟩, .string ⟨p.x.name.toArray⟩, .slice p.aA p.am p.ac, .slice p.kA p.km p.kc] 46 (0, 0))
                  have hb1 := hW.trans (hal.mono hW.size)
                  obtain ⟨v9, w9, run9, o9, bb9, -, -⟩ := run_appT elemN 22 (HK.out.1.below hb1) (some ⟨W.heap.size, 0, none⟩) 1 1 (news := [p.cells]) rfl (Nat.le_refl _) (fun r hr => by rw [List.mem_singleton.1 hr]; rfl) (fun _ => ⟨_, 0, rfl, fun j r hr c u hu => by
                    match j, hr with
                    | 0, hr =>
                      injection hr with hr
                      subst hr
                      rw [Nat.zero_mul, Nat.zero_add, Nat.zero_add]
                      simp only [World.cell?, hqn]
                      rw [← hu]
                      simp [NodeD.cells]
                    | j + 1, hr => simp at hr⟩) (fun r hr u hu => by rw [List.mem_singleton.1 hr] at hu; exact encD.one _ u hu) (by rw [List.length_map]; omega) (Nat.le_trans HK.out.2.size hb1.size)
                  exact ⟨v9, w9, run9, by unfold KRow; rw [List.map_append]; exact o9, HK.out.2.trans ((hb1.mono HK.out.2.size).trans bb9)⟩
                obtain ⟨v9, w9, run9, hk9, hb9⟩ := hapw wr.drew (below_draws (Below.refl _ _) 1)
                have HR9 := Lib.hid run9
                have HK9 := Lib.hid (show KRow W2.heap.size v9 (dl ++ [p]) w9 ∧ Below W2.heap.size W2 w9 from ⟨hk9, hb9⟩)
                have HK0 := Lib.hid (show KRow W2.heap.size u15 dl wr.drew ∧ Below W2.heap.size W2 wr.drew from ⟨HK.out.1.below (below_draws (Below.refl _ _) 1), below_draws HK.out.2 1⟩)
                clear hapw run9 hk9 hb9
                go_upto_region 21 with (fail)
                cases b1
                · have HD9 := Lib.hid (show dl ++ [p] = keepD (keyN c.value) (d.take (k + 1)) by
                    have h := HKe.out
                    rw [HKn.out, ← HDl.out, if_neg (by intro e; rw [decide_eq_true e] at h; simp at h)])
                  go_big_region
                  all_goals
                    go_wp2_with (at_builtin; refine wpList_app_run (by rfl) _ _ rfl rfl rfl HR9.out ?_)
                    go_roundg (gk - 1)
                    case measure => omega
                    case rel => exact ⟨k + 1, dl ++ [p], by omega, by go_num, HD9, by rw [List.length_append]; simp only [List.length_cons, List.length_nil]; omega, HK9⟩
                · cases b2
                  · skip
                    have HD9 := Lib.hid (show dl ++ [p] = keepD (keyN c.value) (d.take (k + 1)) by
                      have h := HKe.out
                      rw [HKn.out, ← HDl.out, if_neg (by intro e; rw [decide_eq_true e] at h; simp at h)])
                    go_big_region
                    all_goals
                      go_wp2_with (at_builtin; refine wpList_app_run (by rfl) _ _ rfl rfl rfl HR9.out ?_)
                      go_roundg (gk - 1)
                      case measure => omega
                      case rel => exact ⟨k + 1, dl ++ [p], by omega, by go_num, HD9, by rw [List.length_append]; simp only [List.length_cons, List.length_nil]; omega, HK9⟩
                  · skip
                    have HD9 := Lib.hid (show dl = keepD (keyN c.value) (d.take (k + 1)) by
                      have h := HKe.out
                      rw [HKn.out, ← HDl.out, if_pos (by rw [Bool.and_self] at h; exact of_decide_eq_true h), List.append_nil])
                    go_big_region
                    all_goals
                      go_wp2
                      go_roundg (gk - 1)
                      case measure => omega
                      case rel => exact ⟨k + 1, dl, by omega, by go_num, HD9, by omega, HK0⟩
      · have k3 : (0 : Int) < ((P 1).d.length : Int) := by
          have h := congrArg List.length m1
          rw [hbe, List.length_map] at h
          simp only [List.length_cons] at h
          omega
        have HBe := Lib.hid (show badP l ≠ [] from by rw [hbe]; exact List.cons_ne_nil _ _)
        have HM1 := Lib.hid m1
        have HM2 := Lib.hid m2
        have HPr := Lib.hid (parts_any ⟨403, A1, (P 1).d.length, p1⟩ ⟨424, A2, (P 2).d.length, p2⟩ wr)
        clear m0 m1 m2 hbe
        go_wp2_with fail
        refine HPr.out.mono ?_
        rintro e w7 ⟨pv, rfl, hkp, hb7⟩
        have hS7 := HP.out.st.under hb7
        have HF := Lib.hid (show PatchP dead l w (.returned (.tuple #[.slice dA dead.length dc, pv, .bool false])) w7 from
          ⟨dA, dc, dead, pv, fullP [⟨403, badP l⟩, ⟨424, othP l⟩], false, rfl, TabP.any (Tab.below HDt.out hS7.base (Nat.le_refl _) fun cs x hx => hx.under hS7.base), HZ.out, by
            rw [← HM1.out, ← HM2.out]
            refine parts_full (Z := [(⟨403, A1, (P 1).d.length, p1⟩, ⟨403, (P 1).d.map (·.x)⟩), (⟨424, A2, (P 2).d.length, p2⟩, ⟨424, (P 2).d.map (·.x)⟩)]) hkp (fun z hz => ?_)
            simp only [List.mem_cons, List.not_mem_nil, or_false] at hz
            rcases hz with rfl | rfl
            · exact ⟨rfl, by rw [List.length_map], HV1.out ▸ (hS7.row 1).nodes (bare_hang (hS7.bare 1) w7)⟩
            · exact ⟨rfl, by rw [List.length_map], HV2.out ▸ (hS7.row 2).nodes (bare_hang (hS7.bare 2) w7)⟩, hS7.base, (fun h => absurd h HBe.out), fun _ => ⟨rfl, rfl, rfl⟩⟩)
        clear hkp hb7 hS7 HPr
        go_wp2
        go_ret3
        rw [HEE.out]
        exact HF.out
    · obtain ⟨hlt, hx, hr⟩ := drop_consA hdr
      obtain ⟨bl, o, aA, ac, kA, kc, rfl, hbl, c0, c1, c2, c3, c4, c5, hnd⟩ := HLk.out i c hx
      have HX := Lib.hid hx
      have hbs := HP.out.st.base.block bl hbl
      have e1 : wr.cell? ⟨bl, o + i * 6 + 1, none⟩ = some (.string ⟨c.value.text.toArray⟩) := by rw [cell_eq hbs]; exact c1
      have e2 : wr.cell? ⟨bl, o + i * 6 + 1 + 1, none⟩ = some (.string ⟨c.value.space.toArray⟩) := by rw [cell_eq hbs]; exact c2
      have e3 : wr.cell? ⟨bl, o + i * 6 + 1 + 2, none⟩ = some (.string ⟨c.value.name.toArray⟩) := by rw [cell_eq hbs]; exact c3
      have e4 : wr.cell? ⟨bl, o + i * 6 + 1 + 3, none⟩ = some (.slice aA c.value.attrs.length ac) := by rw [cell_eq hbs]; exact c4
      have e5 : wr.cell? ⟨bl, o + i * 6 + 1 + 4, none⟩ = some (.slice kA c.value.kids.length kc) := by rw [cell_eq hbs]; exact c5
      have k1 : (i : Int) < l.length := by omega
      have k2 : (0 : Int) ≤ i := by omega
      have hba : Below wr.heap.size wr (wr.alloc (.cells #[.string ⟨c.value.text.toArray⟩, .string ⟨c.value.space.toArray⟩, .string ⟨c.value.name.toArray⟩, .slice aA c.value.attrs.length ac, .slice kA c.value.kids.length kc] 46 (0, 0))) := (Below.refl _ _).alloc (Nat.le_refl _) _
      have hqa := heap_alloc_new wr (.cells #[.string ⟨c.value.text.toArray⟩, .string ⟨c.value.space.toArray⟩, .string ⟨c.value.name.toArray⟩, .slice aA c.value.attrs.length ac, .slice kA c.value.kids.length kc] 46 (0, 0))
      have HS1 := Lib.hid (HP.out.st.under hba)
      have hofr : ∀ j, (P j).v.ownBlock ≠ some wr.heap.size := fun j e => by have := ((HP.out.st.row j).lt _ e).2; omega
      have HQ1 := Lib.hid hqa
      have HPt := Lib.hid (put_any w.heap.size (P 0).v (P 0).d (keyN c.value) _ (HS1.out.row 0) HS1.out.size (by have := HP.out.ln 0; omega))
      clear c0 c1 c2 c3 c4 c5 hnd hdr hr hx hbs hba hqa
      go_wp2_with fail
      refine HPt.out.mono ?_
      rintro e w5 hput
      have hq5 := (hput.elim fun v' h => h.2.2.block wr.heap.size (xlt HQ1.out) (fun e => hofr 0 e.symm)).trans HQ1.out
      obtain ⟨x0, rfl, hS5⟩ := HS1.out.put 0 hput
      have HS5 := Lib.hid hS5
      have HQ5 := Lib.hid hq5
      obtain ⟨qn, hqn⟩ : ∃ qn, qn = wr.heap.size := ⟨_, rfl⟩
      rw [← hqn] at HQ5 ⊢
      clear hqn hput hq5 hS5 HPt e1 e2 e3 e4 e5 HS1 HQ1
      have y1 := xat HQ5.out 1
      have y2 := xat HQ5.out 2
      simp only [List.getElem?_toArray, List.getElem?_cons_zero, List.getElem?_cons_succ] at y1 y2
      go_wp2_with fail
      refine (rprot_any c.value.space c.value.name w5).mono ?_
      rintro e w6 ⟨rfl, hb6⟩
      have HS6 := Lib.hid (HS5.out.under hb6)
      have HQ6 := Lib.hid ((hb6.block _ (xlt HQ5.out)).trans HQ5.out)
      obtain ⟨pk, hpk⟩ : ∃ pk, pk = protK (c.value.space, c.value.name) := ⟨_, rfl⟩
      rw [← hpk]
      have HPk := Lib.hid (show protK (keyN c.value) = pk from hpk.symm)
      clear hpk y1 y2 hb6 HS5 HQ5
      have y1 := xat HQ6.out 1
      have y2 := xat HQ6.out 2
      simp only [List.getElem?_toArray, List.getElem?_cons_zero, List.getElem?_cons_succ] at y1 y2
      cases pk
      · skip
        have hrw : (updR P 0 ⟨x0, putD (P 0).d (keyN c.value)⟩) 2 = P 2 := updR_ne P (by decide) _
        have HPu := Lib.hid (put_any w.heap.size (P 2).v (P 2).d (keyN c.value) w6 (hrw ▸ HS6.out.row 2) HS6.out.size (by have := HP.out.ln 2; omega))
        go_wp2_with fail
        refine HPu.out.mono ?_
        rintro e w7 hput7
        obtain ⟨x7, rfl, hS7⟩ := HS6.out.put 2 (k := keyN c.value) (by rw [hrw]; exact hput7)
        have hn0 : (updR (updR P 0 ⟨x0, putD (P 0).d (keyN c.value)⟩) 2 ⟨x7, putD ((updR P 0 ⟨x0, putD (P 0).d (keyN c.value)⟩) 2).d (keyN c.value)⟩) 0 = ⟨x0, putD (P 0).d (keyN c.value)⟩ := by rw [updR_ne _ (by decide), updR_same]
        have hn1 : (updR (updR P 0 ⟨x0, putD (P 0).d (keyN c.value)⟩) 2 ⟨x7, putD ((updR P 0 ⟨x0, putD (P 0).d (keyN c.value)⟩) 2).d (keyN c.value)⟩) 2 = ⟨x7, putD (P 2).d (keyN c.value)⟩ := by rw [updR_same, hrw]
        have hn2 : (updR (updR P 0 ⟨x0, putD (P 0).d (keyN c.value)⟩) 2 ⟨x7, putD ((updR P 0 ⟨x0, putD (P 0).d (keyN c.value)⟩) 2).d (keyN c.value)⟩) 1 = P 1 := by rw [updR_ne _ (by decide), updR_ne _ (by decide)]
        have HF := Lib.hid (HP.out.other HX.out HPk.out hS7 (by rw [hn0]) (by rw [hn2]) (by rw [hn1]))
        have HN0 := Lib.hid hn0
        have HN1 := Lib.hid hn1
        have HN2 := Lib.hid hn2
        clear y1 y2 hput7 hS7 hn0 hn1 hn2 hrw HS6 HPu
        go_wp2
        go_roundg (gk - 1)
        case measure => omega
        case rel => exact ⟨i + 1, _, by omega, by go_num, by rw [HN0.out], by rw [HN2.out], by rw [HN1.out], HF⟩
      · skip
        have hrw : (updR P 0 ⟨x0, putD (P 0).d (keyN c.value)⟩) 1 = P 1 := updR_ne P (by decide) _
        have HPu := Lib.hid (put_any w.heap.size (P 1).v (P 1).d (keyN c.value) w6 (hrw ▸ HS6.out.row 1) HS6.out.size (by have := HP.out.ln 1; omega))
        go_wp2_with fail
        refine HPu.out.mono ?_
        rintro e w7 hput7
        obtain ⟨x7, rfl, hS7⟩ := HS6.out.put 1 (k := keyN c.value) (by rw [hrw]; exact hput7)
        have hn0 : (updR (updR P 0 ⟨x0, putD (P 0).d (keyN c.value)⟩) 1 ⟨x7, putD ((updR P 0 ⟨x0, putD (P 0).d (keyN c.value)⟩) 1).d (keyN c.value)⟩) 0 = ⟨x0, putD (P 0).d (keyN c.value)⟩ := by rw [updR_ne _ (by decide), updR_same]
        have hn1 : (updR (updR P 0 ⟨x0, putD (P 0).d (keyN c.value)⟩) 1 ⟨x7, putD ((updR P 0 ⟨x0, putD (P 0).d (keyN c.value)⟩) 1).d (keyN c.value)⟩) 1 = ⟨x7, putD (P 1).d (keyN c.value)⟩ := by rw [updR_same, hrw]
        have hn2 : (updR (updR P 0 ⟨x0, putD (P 0).d (keyN c.value)⟩) 1 ⟨x7, putD ((updR P 0 ⟨x0, putD (P 0).d (keyN c.value)⟩) 1).d (keyN c.value)⟩) 2 = P 2 := by rw [updR_ne _ (by decide), updR_ne _ (by decide)]
        have HF := Lib.hid (HP.out.bad HX.out HPk.out hS7 (by rw [hn0]) (by rw [hn1]) (by rw [hn2]))
        have HN0 := Lib.hid hn0
        have HN1 := Lib.hid hn1
        have HN2 := Lib.hid hn2
        clear y1 y2 hput7 hS7 hn0 hn1 hn2 hrw HS6 HPu
        go_wp2
        go_roundg (gk - 1)
        case measure => omega
        case rel => exact ⟨i + 1, _, by omega, by go_num, by rw [HN0.out], by rw [HN1.out], by rw [HN2.out], HF⟩
end Go.Proofs.YtjkiehmjffgnlaaGreatDoor
namespace Go.Proofs.YtjkiehmjffgnlaaGreatDoor
set_option linter.unusedVariables false
set_option linter.unusedSimpArgs false
open Go.RowKit

theorem patchP_same {dead : List NodeT} {l : List ChgT} {res res' : List NodeT} {parts parts' : List PartT} {ok ok' : Bool}
    (h1 : badP l = [] → ok = true ∧ Srt leN res ∧ Stab leN (nowP dead l) res ∧ parts = fullP [⟨200, doneP l⟩]) (h2 : badP l ≠ [] → ok = false ∧ res = dead ∧ parts = fullP [⟨403, badP l⟩, ⟨424, othP l⟩])
    (h3 : badP l = [] → ok' = true ∧ Srt leN res' ∧ Stab leN (nowP dead l) res' ∧ parts' = fullP [⟨200, doneP l⟩]) (h4 : badP l ≠ [] → ok' = false ∧ res' = dead ∧ parts' = fullP [⟨403, badP l⟩, ⟨424, othP l⟩]) : res' = res ∧ parts' = parts ∧ ok' = ok := by
  by_cases hb : badP l = []
  · obtain ⟨e1, s1, t1, p1⟩ := h1 hb
    obtain ⟨e2, s2, t2, p2⟩ := h3 hb
    exact ⟨(srt_unique leN_ok s1 s2 (t1.symm.trans t2)).symm, by rw [p1, p2], by rw [e1, e2]⟩
  · obtain ⟨e1, r1, p1⟩ := h2 hb
    obtain ⟨e2, r2, p2⟩ := h4 hb
    exact ⟨by rw [r1, r2], by rw [p1, p2], by rw [e1, e2]⟩
set_option maxHeartbeats 32000000 in
set_option maxRecDepth 100000 in
set_option linter.unusedSimpArgs false in
theorem law_patches (dead : List NodeT) (l : List ChgT) (v0 v1 : Value) (w : World) (h0 : Tab 5 (NodeP anyB) w v0 dead) (h1 : Tab 6 (ChgR anyB) w v1 l) (hz : ∀ A n c, v0 = .slice A n c → A = none → n = 0 ∧ c = 0) (hds : dead.length ≤ 2000000) (hls : l.length ≤ 2000000) (hE : MEnv w) :
    Calls Tryz.prog 3 #[v0, v1] w (Ret (.bool true) w) := by
  obtain ⟨E, hEE⟩ : ∃ E, E = Ret (.bool true) w := ⟨_, rfl⟩
  rw [← hEE]
  have HEE := Lib.hid hEE
  obtain ⟨dA, dc, rfl⟩ := tab_shape h0
  obtain ⟨lA, lc, rfl⟩ := tab_shape h1
  have HFx := Lib.hid (fixed18_any w hE)
  have H0 := Lib.hid h0
  have H1 := Lib.hid h1
  have HZ := Lib.hid (hz dA dead.length dc rfl)
  clear hEE h0 h1 hz hE
  go_enter Tryz.func3, Tryz.ntmps3
  go_wp2_with fail
  refine HFx.out.mono ?_
  rintro e w1 ⟨rfl, hb1⟩
  have HB1 := Lib.hid hb1
  obtain ⟨vd, d, w2, run2, hd2, hk2, hn2, hb2⟩ := fresh_dead (Q := anyB) (Tab.below H0.out hb1 (Nat.le_refl _) fun cs x hx => hx.under hb1) (by omega)
  have HR2 := Lib.hid run2
  have hb2' := HB1.out.trans (hb2.mono HB1.out.size)
  have HB2 := Lib.hid hb2'
  have hdl : d.length = dead.length := by rw [← hd2, List.length_map]
  have hWas : NodesP anyB w2 vd dead := by rw [← hd2]; exact hk2.nodes fun p hp => (hn2 p hp).move (Moves.same _ fun _ _ _ => trivial)
  obtain ⟨cA, cc, hvd, hcz⟩ : ∃ cA cc, vd = .slice cA dead.length cc ∧ (cA = none → dead.length = 0 ∧ cc = 0) := by
    rcases hk2.form with ⟨rfl, rfl⟩ | ⟨g, cap, rfl, -⟩
    · exact ⟨none, 0, by rw [← hdl]; rfl, fun _ => ⟨by rw [← hdl]; rfl, rfl⟩⟩
    · exact ⟨_, cap, by rw [hdl], fun e => by cases e⟩
  subst hvd
  have HWas := Lib.hid hWas
  have HCz := Lib.hid hcz
  have HP2 := Lib.hid (patch_any dA dc dead lA lc l w2 (Tab.below H0.out hb2' (Nat.le_refl _) fun cs x hx => hx.under hb2') HZ.out (Tab.below H1.out hb2' (Nat.le_refl _) fun cs x hx => mov_chg _ _ _ _ _ _ hx (Moves.below hb2' fun _ _ _ => trivial)) (by omega) (by omega))
  clear hb1 HFx run2 hd2 hk2 hn2 hb2 hb2' hdl hWas hcz
  go_wp2_with (at_builtin; refine wpList_app_run (by rfl) _ _ rfl rfl rfl HR2.out ?_)
  refine HP2.out.mono ?_
  rintro e w3 ⟨A3, c3, a, p3, pa3, ok3, rfl, hN3, -, hP3, hb3, hok3, hno3⟩
  have hb3' := HB2.out.trans (hb3.mono HB2.out.size)
  have HB3 := Lib.hid hb3'
  have HN3 := Lib.hid hN3
  have HP3 := Lib.hid hP3
  have HOk := Lib.hid (show (badP l = [] → ok3 = true ∧ Srt leN a ∧ Stab leN (nowP dead l) a ∧ pa3 = fullP [⟨200, doneP l⟩]) ∧ (badP l ≠ [] → ok3 = false ∧ a = dead ∧ pa3 = fullP [⟨403, badP l⟩, ⟨424, othP l⟩]) from ⟨hok3, hno3⟩)
  have HWas3 := Lib.hid (HWas.out.under hb3)
  have HPr := Lib.hid (rpatch_any cA cc dead lA lc l w3 HWas3.out.1 HCz.out (Tab.below H1.out hb3' (Nat.le_refl _) fun cs x hx => mov_chg _ _ _ _ _ _ hx (Moves.below hb3' fun _ _ _ => trivial)) (by omega) (by omega))
  clear hN3 hP3 hb3 hb3' hok3 hno3 HP2 HWas HR2
  go_wp2_with fail
  refine HPr.out.mono ?_
  rintro e w4 ⟨A4, c4, b, p4, pa4, ok4, rfl, hN4, -, hP4, hb4, hok4, hno4⟩
  obtain ⟨rfl, rfl, rfl⟩ := patchP_same HOk.out.1 HOk.out.2 hok4 hno4
  have hb4' := HB3.out.trans (hb4.mono HB3.out.size)
  have HB4 := Lib.hid hb4'
  obtain ⟨pA, pc, rfl⟩ := tab_shape hP4.1
  have hP3' := HP3.out.under hb4
  obtain ⟨qA, qc, rfl⟩ := tab_shape hP3'.1
  have HP3' := Lib.hid hP3'
  have HP4 := Lib.hid hP4
  have HWas4 := Lib.hid (HWas3.out.under hb4)
  have HD4 := Lib.hid (show NodesP anyB w4 (.slice dA dead.length dc) dead from ⟨Tab.below H0.out hb4' (Nat.le_refl _) fun cs x hx => hx.under hb4', fun _ _ _ => trivial⟩)
  have HSm := Lib.hid (sprops_any b A3 A4 b.length c3 b.length c4 w4 (HN3.out.under hb4) hN4)
  clear hN4 hP4 hP3' hb4 hb4' hok4 hno4 HPr HN3 HP3 HWas3 HOk
  go_wp2_with fail
  refine HSm.out.mono ?_
  rintro e w5 ⟨rfl, hb5⟩
  have HSp := Lib.hid (sparts_any pa4 qA pA pa4.length qc pa4.length pc w5 (HP3'.out.under hb5) (HP4.out.under hb5))
  have hb5' := HB4.out.trans (hb5.mono HB4.out.size)
  have HB5 := Lib.hid hb5'
  have HWas5 := Lib.hid (HWas4.out.under hb5)
  have HD5 := Lib.hid (HD4.out.under hb5)
  clear hb5 hb5' HSm HP3' HP4 HWas4 HD4
  go_wp2_with fail
  refine HSp.out.mono ?_
  rintro e w6 ⟨rfl, hb6⟩
  have HSd := Lib.hid (sprops_any dead dA cA dead.length dc dead.length cc w6 (HD5.out.under hb6) (HWas5.out.under hb6))
  have hb6' := HB5.out.trans (hb6.mono HB5.out.size)
  have HB6 := Lib.hid hb6'
  clear hb6 hb6' HSp HWas5 HD5
  cases ok4 <;>
    (go_wp2_with fail
     refine HSd.out.mono ?_
     rintro e w7 ⟨rfl, hb7⟩
     have HF := Lib.hid (HB6.out.trans (hb7.mono HB6.out.size))
     clear hb7
     go_wp2
     rw [HEE.out]
     exact ⟨rfl, HF.out⟩)
end Go.Proofs.YtjkiehmjffgnlaaGreatDoor

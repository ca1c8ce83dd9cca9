import Derived.Test.YtjkiehmjffgnlaaGreatDoorXmlZ52
import Derived.OwnWalk
import Derived.Deep.RegionHeld3
import Derived.Test.YtjkiehmjffgnlaaGreatDoorXmlZ48
import Derived.Test.YtjkiehmjffgnlaaGreatDoorXmlZ51
import Derived.IntWalk
namespace Go.Proofs.YtjkiehmjffgnlaaGreatDoor
set_option linter.unusedVariables false
set_option linter.unusedSimpArgs false
open Go.RowKit

set_option maxHeartbeats 32000000 in
set_option maxRecDepth 100000 in
set_option linter.unusedSimpArgs false in
theorem patch_any (dA : Option Addr) (dc : Nat) (dead : List NodeT) (lA : Option Addr) (lc : Nat) (l : List ChgT) (w : World) (hd : Tab 5 (NodeP anyB) w (.slice dA dead.length dc) dead) (hz : dA = none → dead.length = 0 ∧ dc = 0) (hl : Tab 6 (ChgR anyB) w (.slice lA l.length lc) l) (hds : dead.length ≤ 10000000) (hls : l.length ≤ 10000000) :
    Calls Tryz.prog 8 #[.slice dA dead.length dc, .slice lA l.length lc] w (PatchP dead l w) := by
  obtain ⟨E, hEE⟩ : ∃ E, E = PatchP dead l w := ⟨_, rfl⟩
  rw [← hEE]
  have HEE := Lib.hid hEE
  obtain ⟨-, hlc, hlm, hlk⟩ := chg_at hl
  unfold maxLen at hlm
  have HLk := Lib.hid hlk
  have HDt := Lib.hid hd
  have HZ := Lib.hid hz
  obtain ⟨hb3, hc0, hc1, hc2⟩ := three_allocL w (.cells #[.int .i64 200, .slice none 0 0] 43 (0, 0)) (.cells #[.int .i64 403, .slice none 0 0] 43 (0, 0)) (.cells #[.int .i64 424, .slice none 0 0] 43 (0, 0))
  have hdw : Tab 5 (NodeP (fun k => k < w.heap.size)) _ (.slice dA dead.length dc) dead := (TabP.move (R' := NodeP (fun k => k < w.heap.size)) (P := anyB) (Q := anyB) ⟨hd, fun _ _ _ => trivial⟩ (Moves.below hb3 fun _ _ _ => trivial) (fun cs x _ hx => hx.move ⟨hb3.size, fun k _ hk => ⟨hk, hb3.block k hk⟩⟩)).1
  have HCl := Lib.hid (clone_any (fun k => k < w.heap.size) dA dead.length dc dead _ rfl hdw hz (by omega))
  have H0 := Lib.hid hc0
  have H1 := Lib.hid hc1
  have H2 := Lib.hid hc2
  have HB3 := Lib.hid hb3
  have hs3 := xlt hc2
  clear hEE hd hz hl hlk hb3 hc0 hc1 hc2 hdw
  go_enter Tryz.func8, Tryz.ntmps8
  go_wp2_with fail
  refine HCl.out.mono ?_
  rintro e w4 ⟨v, d, rfl, hdm, hk, hlo, hb, -, -⟩
  have hb4 := HB3.out.trans (hb.mono HB3.out.size)
  have HI := PInv.start (dead := dead) (l := l) (B := w.heap.size) ((hb.block _ (xlt H0.out)).trans H0.out) ((hb.block _ (xlt H1.out)).trans H1.out) ((hb.block _ (xlt H2.out)).trans H2.out) (Nat.le_refl _) (Nat.lt_succ_self _) (Nat.lt_succ_self _) hs3 hk (fun p hp => (hlo p hp).move (Moves.same _ fun k hk _ => hk.1)) hdm hb4
  obtain ⟨P0, HI⟩ := HI
  have HI := Lib.hid HI
  clear hk hlo hdm hb hb4 hs3 HB3 H0 H1 H2 HCl
  obtain ⟨b2, hb2⟩ : ∃ b, b = w.heap.size + 1 + 1 := ⟨_, rfl⟩
  rw [← hb2] at HI ⊢
  clear hb2
  obtain ⟨b1, hb1⟩ : ∃ b, b = w.heap.size + 1 := ⟨_, rfl⟩
  rw [← hb1] at HI ⊢
  clear hb1
  obtain ⟨b0, hb0⟩ : ∃ b, PInv w.heap.size b b1 b2 dead l 0 P0 v d w w4 ∧ b = w.heap.size := ⟨_, HI.out, rfl⟩
  rw [← hb0.2]
  have HI := Lib.hid hb0.1
  clear hb0
  go_wp2_with fail
  go_loopg [10, 21] l.length (fun gk v10 v21 wr => ∃ (i : Nat) (P : Fin 3 → Prt) (d : List NodeD), i + gk = l.length ∧ v21 = .int .i64 i ∧ Hid (PInv w.heap.size b0 b1 b2 dead l i P v10 d w wr))
  case atStart => exact ⟨0, P0, d, by omega, rfl, HI⟩
  case round =>
    obtain ⟨i, P, d, hig, rfl, HP⟩ := hrel
    rcases hdr : l.drop i with _ | ⟨c, rest⟩
    · have hi2 : i = l.length := by have := drop_nil hdr; omega
      subst hi2
      clear hdr
      have m0 := HP.out.m0
      have m1 := HP.out.m1
      have m2 := HP.out.m2
      have mn := HP.out.mn
      rw [List.take_length] at m0 m1 m2 mn
      obtain ⟨A0, p0, hv0, hl0, hq0, -⟩ := (HP.out.st.row 0).slice
      obtain ⟨A1, p1, hv1, hl1, hq1, -⟩ := (HP.out.st.row 1).slice
      obtain ⟨A2, p2, hv2, hl2, hq2, -⟩ := (HP.out.st.row 2).slice
      obtain ⟨A, pc, hv, hl9, hq9, -⟩ := HP.out.st.now.slice
      subst hv
      unfold maxLen at hq0 hq1 hq2 hq9
      have k1 : ¬ ((l.length : Int) < l.length) := by omega
      have y := HP.out.st.cell 1
      rw [HP.out.e1.1, HP.out.e1.2, hv1] at y
      have y0 := xat y 0
      have y1 := xat y 1
      simp only [List.getElem?_toArray, List.getElem?_cons_zero, List.getElem?_cons_succ] at y0 y1
      have u := HP.out.st.cell 2
      rw [HP.out.e2.1, HP.out.e2.2, hv2] at u
      have HV0 := Lib.hid hv0
      have HV1 := Lib.hid hv1
      have HV2 := Lib.hid hv2
      have hln := HP.out.lnn
      rcases hbe : badP l with _ | ⟨bn, br⟩
      · have HM0 := Lib.hid m0
        have HMn := Lib.hid (show d.map (·.x) = nowP dead l by rw [mn]; exact nowL_eq l dead (bad_none l hbe))
        have HBe := Lib.hid hbe
        have k3 : ¬ (0 : Int) < ((P 1).d.length : Int) := by
          have h := congrArg List.length m1
          rw [hbe, List.length_map] at h
          simp only [List.length_nil] at h
          omega
        have HSo := Lib.hid (sortK_any w.heap.size (.slice A d.length pc) d wr HP.out.st.now (by omega))
        clear m0 m1 m2 mn hbe u hv0 hv1 hv2 y
        go_wp2_with fail
        refine HSo.out.mono ?_
        rintro e w5 ⟨rfl, d', ⟨hsr, hst⟩, hr5, hg5⟩
        have hS5 := HP.out.st.next hr5 hg5 (fun p hp => (HP.out.st.low p (stab_mem hst hp)).move ⟨hg5.size, fun k hk hlt => ⟨hk, hg5.block k hlt (fun e => by have := (HP.out.st.now.lt k e.symm).1; omega)⟩⟩)
        have z := hS5.cell 0
        rw [HP.out.e0.1, HP.out.e0.2, HV0.out] at z
        have z0 := xat z 0
        have z1 := xat z 1
        simp only [List.getElem?_toArray, List.getElem?_cons_zero, List.getElem?_cons_succ] at z0 z1
        have HS5 := Lib.hid hS5
        have HSt := Lib.hid (show Srt leD d' ∧ Stab leD d d' from ⟨hsr, hst⟩)
        have hal : Below w5.heap.size w5 (w5.alloc (.cells #[.int .i64 200, .slice A0 (P 0).d.length p0] 43 (0, 0))) := (Below.refl _ _).alloc (Nat.le_refl _) _
        have HAl := Lib.hid hal
        have HFu := Lib.hid (full_any w.heap.size w5.heap.size 1 [⟨200, A0, (P 0).d.length, p0⟩] 1 _ rfl (prow_lit1 (heap_alloc_new w5 (.cells #[.int .i64 200, .slice A0 (P 0).d.length p0] 43 (0, 0))) hS5.size) (by decide))
        clear z hS5 hsr hst hal y0 y1 HSo hr5 hg5
        go_wp2_with fail
        refine HFu.out.mono ?_
        rintro e w7 ⟨rfl, hp7, hg7⟩
        have hb7 : Below w5.heap.size w5 w7 := HAl.out.trans (hg7.low (fun k e => by injection e with e; omega) HAl.out.size)
        have hS7 := HS5.out.under hb7
        have hl : (d'.map (·.x)).length = d.length := by rw [List.length_map]; exact HSt.out.2.1
        have HF := Lib.hid (show PatchP dead l w (.returned (.tuple #[.slice A d.length pc, .slice (some ⟨w5.heap.size, 0, none⟩) (fullD [⟨200, A0, (P 0).d.length, p0⟩]).length 1, .bool true])) w7 from
          ⟨A, pc, d'.map (·.x), _, fullP [⟨200, doneP l⟩], true, by rw [hl], by rw [hl]; exact hS7.now.nodes hS7.low.hang, (fun e => by
            rcases hS7.now.form with ⟨h1, h2⟩ | ⟨g, cap, h1, -⟩
            · rw [h2]; injection h1 with _ _ h3; exact ⟨rfl, h3⟩
            · injection h1 with h1; rw [e] at h1; cases h1), by
            rw [← HM0.out]
            exact parts_full (Z := [(⟨200, A0, (P 0).d.length, p0⟩, ⟨200, (P 0).d.map (·.x)⟩)]) hp7 (fun z hz => by
              rw [List.mem_singleton.1 hz]
              exact ⟨rfl, (hS7.part 0 HV0.out).2.1, (hS7.part 0 HV0.out).2.2⟩), hS7.base, (fun _ => ⟨rfl, srt_map HSt.out.1, by rw [← HMn.out]; exact stab_map HSt.out.2, rfl⟩), fun h => absurd HBe.out h⟩)
        clear hp7 hg7 hb7 hS7 hl z0 z1
        go_wp2
        go_ret3
        rw [HEE.out]
        exact HF.out
      · have k3 : (0 : Int) < ((P 1).d.length : Int) := by
          have h := congrArg List.length m1
          rw [hbe, List.length_map] at h
          simp only [List.length_cons] at h
          omega
        have u0 := xat u 0
        have u1 := xat u 1
        simp only [List.getElem?_toArray, List.getElem?_cons_zero, List.getElem?_cons_succ] at u0 u1
        have hyl := xlt y
        have hul := xlt u
        have HBe := Lib.hid (show badP l ≠ [] from by rw [hbe]; exact List.cons_ne_nil _ _)
        have hS0 : wr.drew.cell? ⟨b1, 0, none⟩ = some (.int .i64 403) ∧ wr.drew.cell? ⟨b1, 1, none⟩ = some (.slice A1 (P 1).d.length p1) ∧ wr.drew.cell? ⟨b2, 0, none⟩ = some (.int .i64 424) ∧ wr.drew.cell? ⟨b2, 1, none⟩ = some (.slice A2 (P 2).d.length p2) := ⟨y0, y1, u0, u1⟩
        have Hk := Lib.hid (fun (wb : World) (h : Below wr.heap.size wr wb) => (show wb.cell? ⟨b1, 0, none⟩ = some (.int .i64 403) ∧ wb.cell? ⟨b1, 1, none⟩ = some (.slice A1 (P 1).d.length p1) ∧ wb.cell? ⟨b2, 0, none⟩ = some (.int .i64 424) ∧ wb.cell? ⟨b2, 1, none⟩ = some (.slice A2 (P 2).d.length p2) from ⟨(h.cell (p := ⟨b1, 0, none⟩) hyl).trans y0, (h.cell (p := ⟨b1, 1, none⟩) hyl).trans y1, (h.cell (p := ⟨b2, 0, none⟩) hul).trans u0, (h.cell (p := ⟨b2, 1, none⟩) hul).trans u1⟩))
        have hbw := HP.out.st.base
        have hd1 : Below wr.heap.size wr wr.drew := below_draws (Below.refl _ _) 1
        have hd2 : Below wr.heap.size wr (wr.alloc (.cells #[.int .i64 403, .slice A1 (P 1).d.length p1, .int .i64 424, .slice A2 (P 2).d.length p2] 43 (0, 0))).drew := below_draws ((Below.refl _ _).alloc (Nat.le_refl _) _) 1
        have hsA := Hk.out _ hd2
        have HTw := Lib.hid (fun (W : World) (h : Below wr.heap.size wr W) => (show Tab 5 (NodeP (fun k => k < w.heap.size)) W (.slice dA dead.length dc) dead from
          (TabP.move (R' := NodeP (fun k => k < w.heap.size)) (P := anyB) (Q := anyB) ⟨HDt.out, fun _ _ _ => trivial⟩ (Moves.below (hbw.trans (h.mono hbw.size)) fun _ _ _ => trivial) (fun cs x _ hx => hx.move ⟨(hbw.trans (h.mono hbw.size)).size, fun k _ hk => ⟨hk, (hbw.trans (h.mono hbw.size)).block k hk⟩⟩)).1))
        have HCl2 := Lib.hid (fun (W : World) (h : Below wr.heap.size wr W) => clone_any (fun k => k < w.heap.size) dA dead.length dc dead W rfl (HTw.out W h) HZ.out (by omega))
        have HFu2 := Lib.hid (fun (W : World) (g : Nat) (h : W.heap[g]? = some (.cells #[.int .i64 403, .slice A1 (P 1).d.length p1, .int .i64 424, .slice A2 (P 2).d.length p2] 43 (0, 0))) (hB : w.heap.size ≤ g) => full_any w.heap.size g 2 [⟨403, A1, (P 1).d.length, p1⟩, ⟨424, A2, (P 2).d.length, p2⟩] 2 W rfl (prow_lit2 h hB) (by decide))
        have HcA := Lib.hid (fun (w7 : World) (h : Below (wr.alloc (.cells #[.int .i64 403, .slice A1 (P 1).d.length p1, .int .i64 424, .slice A2 (P 2).d.length p2] 43 (0, 0))).drew.heap.size (wr.alloc (.cells #[.int .i64 403, .slice A1 (P 1).d.length p1, .int .i64 424, .slice A2 (P 2).d.length p2] 43 (0, 0))).drew w7) => (show Below wr.heap.size wr w7 ∧ w7.heap[wr.heap.size]? = some (.cells #[.int .i64 403, .slice A1 (P 1).d.length p1, .int .i64 424, .slice A2 (P 2).d.length p2] 43 (0, 0)) from
          ⟨hd2.trans (h.mono hd2.size), (h.block _ (xlt (heap_alloc_new wr (.cells #[.int .i64 403, .slice A1 (P 1).d.length p1, .int .i64 424, .slice A2 (P 2).d.length p2] 43 (0, 0))))).trans (heap_alloc_new wr (.cells #[.int .i64 403, .slice A1 (P 1).d.length p1, .int .i64 424, .slice A2 (P 2).d.length p2] 43 (0, 0)))⟩))
        have HcB := Lib.hid (fun (w7 : World) (h : Below wr.drew.heap.size wr.drew w7) => (show Below wr.heap.size wr w7 from hd1.trans h))
        have HEndA := Lib.hid (fun (w7 w9 : World) (v7 : Value) (d7 : List NodeD) (hk7 : KRow (wr.alloc (.cells #[.int .i64 403, .slice A1 (P 1).d.length p1, .int .i64 424, .slice A2 (P 2).d.length p2] 43 (0, 0))).drew.heap.size v7 d7 w7) (hd7 : d7.map (·.x) = dead) (hl7 : ∀ p ∈ d7, NodeP (fun k => k < w.heap.size ∧ k < (wr.alloc (.cells #[.int .i64 403, .slice A1 (P 1).d.length p1, .int .i64 424, .slice A2 (P 2).d.length p2] 43 (0, 0))).drew.heap.size) w7 p.cells p.x) (hw7 : Below wr.heap.size wr w7) (hp9 : PRow w.heap.size wr.heap.size 2 (fullD [⟨403, A1, (P 1).d.length, p1⟩, ⟨424, A2, (P 2).d.length, p2⟩]) w9) (hg9 : RGr (some wr.heap.size) (some wr.heap.size) w7 w9) =>
          bad_end HP.out HBe.out HV1.out HV2.out hk7 hd7 hl7 hw7 (Below.refl _ _) (fun e => by have := (hk7.lt _ e).1; have h2 : (wr.alloc (.cells #[.int .i64 403, .slice A1 (P 1).d.length p1, .int .i64 424, .slice A2 (P 2).d.length p2] 43 (0, 0))).drew.heap.size = wr.heap.size + 1 := World.size_alloc ..; omega) (Nat.le_refl _) hg9 hp9)
        have HEndB := Lib.hid (fun (w7 w9 : World) (v7 : Value) (d7 : List NodeD) (hk7 : KRow wr.drew.heap.size v7 d7 w7) (hd7 : d7.map (·.x) = dead) (hl7 : ∀ p ∈ d7, NodeP (fun k => k < w.heap.size ∧ k < wr.drew.heap.size) w7 p.cells p.x) (hw7 : Below wr.heap.size wr w7) (hp9 : PRow w.heap.size w7.heap.size 2 (fullD [⟨403, A1, (P 1).d.length, p1⟩, ⟨424, A2, (P 2).d.length, p2⟩]) w9) (hg9 : RGr (some w7.heap.size) (some w7.heap.size) (w7.alloc (.cells #[.int .i64 403, .slice A1 (P 1).d.length p1, .int .i64 424, .slice A2 (P 2).d.length p2] 43 (0, 0))) w9) =>
          bad_end HP.out HBe.out HV1.out HV2.out hk7 hd7 hl7 hw7 ((Below.refl w7.heap.size w7).alloc (Nat.le_refl _) _) (fun e => by have := (hk7.lt _ e).2; omega) hw7.size hg9 hp9)
        have HLo := Lib.hid (fun (W w9 : World) (g : Nat) (h : Below wr.heap.size wr W) (hg : wr.heap.size ≤ g) (hr : RGr (some g) (some g) W w9) => (show w9.cell? ⟨b1, 0, none⟩ = some (.int .i64 403) ∧ w9.cell? ⟨b1, 1, none⟩ = some (.slice A1 (P 1).d.length p1) ∧ w9.cell? ⟨b2, 0, none⟩ = some (.int .i64 424) ∧ w9.cell? ⟨b2, 1, none⟩ = some (.slice A2 (P 2).d.length p2) from Hk.out w9 (h.trans (hr.low (fun k e => by injection e with e; omega) h.size))))
        have HAl := Lib.hid (fun (w7 : World) (h : Below wr.heap.size wr w7) => (show Below wr.heap.size wr (w7.alloc (.cells #[.int .i64 403, .slice A1 (P 1).d.length p1, .int .i64 424, .slice A2 (P 2).d.length p2] 43 (0, 0))) ∧ (w7.alloc (.cells #[.int .i64 403, .slice A1 (P 1).d.length p1, .int .i64 424, .slice A2 (P 2).d.length p2] 43 (0, 0))).heap[w7.heap.size]? = some (.cells #[.int .i64 403, .slice A1 (P 1).d.length p1, .int .i64 424, .slice A2 (P 2).d.length p2] 43 (0, 0)) from ⟨h.alloc h.size _, heap_alloc_new w7 _⟩))
        have hsw : w.heap.size ≤ wr.heap.size := hbw.size
        clear m0 m1 m2 mn hbe hv0 hv1 hv2 y u hyl hul HDt HTw HLk
        go_upto_region 16 with (fail)
        clear y0 y1 u0 u1
        go_region_held3 (fun w' => w'.cell? ⟨b1, 0, none⟩ = some (.int .i64 403) ∧ w'.cell? ⟨b1, 1, none⟩ = some (.slice A1 (P 1).d.length p1) ∧ w'.cell? ⟨b2, 0, none⟩ = some (.int .i64 424) ∧ w'.cell? ⟨b2, 1, none⟩ = some (.slice A2 (P 2).d.length p2))
          (first | with_reducible exact hS0 | with_reducible exact hs9 | with_reducible exact hs8 | with_reducible exact hs7 | with_reducible exact hsA)
          (first
            | (have _h := hgA; go_at_call 21; refine (HFu2.out w7 wr.heap.size hgA hsw).mono ?_; rintro e w9 ⟨rfl, hp9, hg9⟩; have hs9 := HLo.out w7 w9 wr.heap.size hw7 (Nat.le_refl _) hg9; have HF := Lib.hid (HEndA.out w7 w9 v7 d7 hk7 hd7 hl7 hw7 hp9 hg9))
            | (have _h := hgB; go_at_call 21; refine (HFu2.out _ w7.heap.size (HAl.out w7 hw7).2 (Nat.le_trans hsw hw7.size)).mono ?_; rintro e w9 ⟨rfl, hp9, hg9⟩; have hs9 := HLo.out _ w9 w7.heap.size (HAl.out w7 hw7).1 hw7.size hg9; have HF := Lib.hid (HEndB.out w7 w9 v7 d7 hk7 hd7 hl7 hw7 hp9 hg9))
            | (go_at_call 16; refine (HCl2.out _ hd2).mono ?_; rintro e w7 ⟨v7, d7, rfl, hd7, hk7, hl7, hb7, -, -⟩; obtain ⟨hw7, hgA⟩ := HcA.out w7 hb7; have hs7 := Hk.out w7 hw7)
            | (go_at_call 16; refine (HCl2.out _ hd1).mono ?_; rintro e w7 ⟨v7, d7, rfl, hd7, hk7, hl7, hb7, -, -⟩; have hw7 := HcB.out w7 hb7; have hgB := hw7; have hs7 := Hk.out w7 hw7; have hs8 := Hk.out _ (HAl.out w7 hw7).1))
        all_goals
          clear hs7 hs9 hp9 hg9
          go_wp2
          go_ret3
          rw [HEE.out]
          exact HF.out
    · obtain ⟨hlt, hx, hr⟩ := drop_consA hdr
      obtain ⟨bl, o, aA, ac, kA, kc, rfl, hbl, c0, c1, c2, c3, c4, c5, hnd⟩ := HLk.out i c hx
      have HX := Lib.hid hx
      have hbs := HP.out.st.base.block bl hbl
      have e0 : wr.cell? ⟨bl, o + i * 6, none⟩ = some (.bool c.remove) := by rw [cell_eq hbs]; exact c0
      have e1 : wr.cell? ⟨bl, o + i * 6 + 1, none⟩ = some (.string ⟨c.value.text.toArray⟩) := by rw [cell_eq hbs]; exact c1
      have e2 : wr.cell? ⟨bl, o + i * 6 + 2, none⟩ = some (.string ⟨c.value.space.toArray⟩) := by rw [cell_eq hbs]; exact c2
      have e3 : wr.cell? ⟨bl, o + i * 6 + 3, none⟩ = some (.string ⟨c.value.name.toArray⟩) := by rw [cell_eq hbs]; exact c3
      have e4 : wr.cell? ⟨bl, o + i * 6 + 4, none⟩ = some (.slice aA c.value.attrs.length ac) := by rw [cell_eq hbs]; exact c4
      have e5 : wr.cell? ⟨bl, o + i * 6 + 5, none⟩ = some (.slice kA c.value.kids.length kc) := by rw [cell_eq hbs]; exact c5
      have k1 : (i : Int) < l.length := by omega
      have k2 : (0 : Int) ≤ i := by omega
      have HNd := Lib.hid (show NodeP (fun k => k < w.heap.size) w [.string ⟨c.value.text.toArray⟩, .string ⟨c.value.space.toArray⟩, .string ⟨c.value.name.toArray⟩, .slice aA c.value.attrs.length ac, .slice kA c.value.kids.length kc] c.value from hnd.move (Moves.same w fun _ _ hk => hk))
      have HNm := Lib.hid (fun w => name_any c.value.text c.value.space c.value.name (.slice aA c.value.attrs.length ac) (.slice kA c.value.kids.length kc) w)
      clear c0 c1 c2 c3 c4 c5 hnd hdr hr hx hbs
      go_wp2_with fail
      refine (HNm.out _).mono ?_
      rintro e w5 ⟨rfl, q5, os5, he5⟩
      have hbA : Below wr.heap.size wr (wr.alloc (.cells #[.bool c.remove, .string ⟨c.value.text.toArray⟩, .string ⟨c.value.space.toArray⟩, .string ⟨c.value.name.toArray⟩, .slice aA c.value.attrs.length ac, .slice kA c.value.kids.length kc] 54 (0, 0))) := (Below.refl _ _).alloc (Nat.le_refl _) _
      have hqA := heap_alloc_new wr (.cells #[.bool c.remove, .string ⟨c.value.text.toArray⟩, .string ⟨c.value.space.toArray⟩, .string ⟨c.value.name.toArray⟩, .slice aA c.value.attrs.length ac, .slice kA c.value.kids.length kc] 54 (0, 0))
      have hb5 : Below (wr.alloc (.cells #[.bool c.remove, .string ⟨c.value.text.toArray⟩, .string ⟨c.value.space.toArray⟩, .string ⟨c.value.name.toArray⟩, .slice aA c.value.attrs.length ac, .slice kA c.value.kids.length kc] 54 (0, 0))).heap.size (wr.alloc (.cells #[.bool c.remove, .string ⟨c.value.text.toArray⟩, .string ⟨c.value.space.toArray⟩, .string ⟨c.value.name.toArray⟩, .slice aA c.value.attrs.length ac, .slice kA c.value.kids.length kc] 54 (0, 0))) w5 := he5 ▸ below_grown _ q5 os5
      have hbk : Below w5.heap.size w5 (w5.alloc (.cells #[.string ⟨c.value.space.toArray⟩, .string ⟨c.value.name.toArray⟩] 52 (0, 0))) := (Below.refl _ _).alloc (Nat.le_refl _) _
      have hqk := heap_alloc_new w5 (.cells #[.string ⟨c.value.space.toArray⟩, .string ⟨c.value.name.toArray⟩] 52 (0, 0))
      have hwA5 : wr.heap.size ≤ w5.heap.size := Nat.le_trans hbA.size hb5.size
      have hq5 := (hb5.block _ (xlt hqA)).trans hqA
      have HKq := Lib.hid (PSt.fresh HP.out.st (Nat.le_refl _) ((hbk.block _ (xlt hq5)).trans hq5))
      have HKk := Lib.hid (PSt.fresh HP.out.st hwA5 hqk)
      have HS6 := Lib.hid (HP.out.st.under (hbA.trans ((hb5.mono hbA.size).trans (hbk.mono hwA5))))
      clear e0 e1 e2 e3 e4 e5 hbA hqA hb5 hbk hqk hwA5 hq5 he5 HNm
      obtain ⟨kb, hkb⟩ : ∃ kb, kb = w5.heap.size := ⟨_, rfl⟩
      rw [← hkb] at HKk
      go_wp2_with fail
      refine (HS6.out.call 0 HP.out.e0 (by have := HP.out.ln 0; omega) (keyN c.value)).mono ?_
      rw [← hkb]
      clear hkb
      rintro e w7 ⟨rfl, P7, hS7, hK7, hb7, hd7, hj7⟩
      have HS7 := Lib.hid hS7
      have HKq7 := Lib.hid (hK7 _ _ HKq.out)
      have HKk7 := Lib.hid (hK7 _ _ HKk.out)
      have y0 := xat HKk7.out.at_ 0
      have y1 := xat HKk7.out.at_ 1
      simp only [List.getElem?_toArray, List.getElem?_cons_zero, List.getElem?_cons_succ] at y0 y1
      clear hS7 hK7 HKq HKk HS6
      have HJ7 := Lib.hid (show (∀ j, (P7 j).b = (P j).b ∧ (P7 j).code = (P j).code) ∧ (P7 0).d = putD (P 0).d (keyN c.value) ∧ P7 1 = P 1 ∧ P7 2 = P 2 from ⟨hb7, hd7, hj7 1 (by decide), hj7 2 (by decide)⟩)
      clear hb7 hd7 hj7
      go_wp2_with fail
      refine (protected_any c.value.space c.value.name w7).mono ?_
      rintro e w8 ⟨rfl, q8, os8, he8⟩
      have hb8 : Below w7.heap.size w7 w8 := he8 ▸ below_grown _ q8 os8
      have HS8 := Lib.hid (HS7.out.under hb8)
      have HKq8 := Lib.hid (HKq7.out.under hb8)
      have HKk8 := Lib.hid (HKk7.out.under hb8)
      clear y0 y1 he8 hb8 HS7 HKq7 HKk7
      obtain ⟨pk, hpk⟩ : ∃ pk, pk = protK (c.value.space, c.value.name) := ⟨_, rfl⟩
      rw [← hpk]
      have HPk := Lib.hid (show protK (keyN c.value) = pk from hpk.symm)
      clear hpk
      have y0 := xat HKk8.out.at_ 0
      have y1 := xat HKk8.out.at_ 1
      simp only [List.getElem?_toArray, List.getElem?_cons_zero, List.getElem?_cons_succ] at y0 y1
      cases pk
      · go_wp2_with fail
        refine (HS8.out.call 2 ⟨(HJ7.out.1 2).1.trans HP.out.e2.1, (HJ7.out.1 2).2.trans HP.out.e2.2⟩ (by rw [HJ7.out.2.2.2]; have := HP.out.ln 2; omega) (keyN c.value)).mono ?_
        rintro e w9 ⟨rfl, P9, hS9, hK9, hb9, hd9, hj9⟩
        have HS9 := Lib.hid hS9
        have HKq9 := Lib.hid (hK9 _ _ HKq8.out)
        have HKk9 := Lib.hid (hK9 _ _ HKk8.out)
        have HJ9 := Lib.hid (show (∀ j, (P9 j).b = (P j).b ∧ (P9 j).code = (P j).code) ∧ (P9 0).d = putD (P 0).d (keyN c.value) ∧ (P9 1).d = (P 1).d ∧ (P9 2).d = putD (P 2).d (keyN c.value) from
          ⟨fun j => ⟨(hb9 j).1.trans (HJ7.out.1 j).1, (hb9 j).2.trans (HJ7.out.1 j).2⟩, by rw [hj9 0 (by decide)]; exact HJ7.out.2.1, by rw [hj9 1 (by decide), HJ7.out.2.2.1], by rw [hd9, HJ7.out.2.2.2]⟩)
        clear y0 y1 hS9 hK9 hb9 hd9 hj9 HS8 HKq8 HKk8 HJ7
        have HDe := Lib.hid (deleteK_any w.heap.size u10 d (keyN c.value) kb w9 HS9.out.now HS9.out.low.hang HKk9.out.at_ (fun e => HKk9.out.offn e.symm) (by have := HP.out.lnn; omega))
        go_wp2_with fail
        refine HDe.out.mono ?_
        rintro e w10 ⟨v', rfl, hr10, hg10, ho10⟩
        have HS10 := Lib.hid (HS9.out.next (d' := keepD (keyN c.value) d) hr10 (by rw [ho10]; exact hg10) (fun p hp => (HS9.out.low p (List.mem_filter.1 hp).1).move ⟨hg10.size, fun k hk hlt => ⟨hk, hg10.block k hlt (fun e => by have := (HS9.out.now.lt k e.symm).1; omega)⟩⟩))
        have HKq10 := Lib.hid (HKq9.out.next (v' := v') (by rw [ho10]; exact hg10))
        clear hr10 hg10 ho10 HDe HS9 HKq9 HKk9
        have x0 := xat HKq10.out.at_ 0
        have x1 := xat HKq10.out.at_ 1
        have x2 := xat HKq10.out.at_ 2
        have x3 := xat HKq10.out.at_ 3
        have x4 := xat HKq10.out.at_ 4
        have x5 := xat HKq10.out.at_ 5
        simp only [List.getElem?_toArray, List.getElem?_cons_zero, List.getElem?_cons_succ] at x0 x1 x2 x3 x4 x5
        obtain ⟨rm, hrm⟩ : ∃ rm, rm = c.remove := ⟨_, rfl⟩
        rw [← hrm] at x0
        have HRm := Lib.hid (show stepP (d.map (·.x)) c = (keepD (keyN c.value) d).map (·.x) ++ (if rm then [] else [c.value]) by unfold stepP; rw [keepD_map, hrm])
        clear hrm
        cases rm
        · have hal : Below w10.heap.size w10 (w10.alloc (.cells #[.string ⟨c.value.text.toArray⟩, .string ⟨c.value.space.toArray⟩, .string ⟨c.value.name.toArray⟩, .slice aA c.value.attrs.length ac, .slice kA c.value.kids.length kc] 46 (0, 0))) := (Below.refl _ _).alloc (Nat.le_refl _) _
          have hqn := heap_alloc_new w10 (.cells #[.string ⟨c.value.text.toArray⟩, .string ⟨c.value.space.toArray⟩, .string ⟨c.value.name.toArray⟩, .slice aA c.value.attrs.length ac, .slice kA c.value.kids.length kc] 46 (0, 0))
          have hS11 := HS10.out.under hal
          obtain ⟨v1, w11, run1, o1, bb1, g1, p1⟩ := run_appT elemN 22 hS11.now (some ⟨w10.heap.size, 0, none⟩) 1 1 (news := [(⟨c.value, aA, c.value.attrs.length, ac, kA, c.value.kids.length, kc⟩ : NodeD).cells]) rfl (Nat.le_refl _) (fun r hr => by rw [List.mem_singleton.1 hr]; rfl) (fun _ => ⟨_, 0, rfl, fun j r hr c u hu => by
            match j, hr with
            | 0, hr =>
              injection hr with hr
              subst hr
              rw [Nat.zero_mul, Nat.zero_add, Nat.zero_add]
              simp only [World.cell?, hqn]
              rw [← hu]
              simp [NodeD.cells]
            | j + 1, hr => simp at hr⟩) (fun r hr u hu => by rw [List.mem_singleton.1 hr] at hu; exact encD.one _ u hu) (by rw [List.length_map]; have := HP.out.lnn; have := keepD_len (keyN c.value) d; omega) hS11.size
          have hg11 : RGr v'.ownBlock v1.ownBlock (w10.alloc (.cells #[.string ⟨c.value.text.toArray⟩, .string ⟨c.value.space.toArray⟩, .string ⟨c.value.name.toArray⟩, .slice aA c.value.attrs.length ac, .slice kA c.value.kids.length kc] 46 (0, 0))) w11 := RGr.of g1 (p1.imp id fun e => ⟨_, e, Nat.le_refl _⟩)
          have hlow : Below w.heap.size (w10.alloc (.cells #[.string ⟨c.value.text.toArray⟩, .string ⟨c.value.space.toArray⟩, .string ⟨c.value.name.toArray⟩, .slice aA c.value.attrs.length ac, .slice kA c.value.kids.length kc] 46 (0, 0))) w11 := hg11.low (fun k e => (hS11.now.lt k e).1) hS11.size
          have hS12 := hS11.next (v' := v1) (d' := keepD (keyN c.value) d ++ [⟨c.value, aA, c.value.attrs.length, ac, kA, c.value.kids.length, kc⟩]) (by unfold KRow; rw [List.map_append]; exact o1) hg11 (fun p hp => by
            rcases List.mem_append.1 hp with hp | hp
            · exact hS11.low.below hlow p hp
            · rw [List.mem_singleton.1 hp]
              exact HNd.out.move ⟨((hS11.base).trans hlow).size, fun k hk _ => ⟨hk, ((hS11.base).trans hlow).block k hk⟩⟩)
          have HF := Lib.hid (HP.out.other HX.out HPk.out hS12 HJ9.out.1 HJ9.out.2.1 HJ9.out.2.2.1 HJ9.out.2.2.2 (by rw [HRm.out, List.map_append]; rfl) (by rw [List.length_append]; have := keepD_len (keyN c.value) d; simp only [List.length_cons, List.length_nil]; omega))
          have HR := Lib.hid run1
          clear hal hqn hS11 run1 o1 bb1 g1 p1 hg11 hlow hS12 HS10 HKq10 HRm HJ9
          go_wp2_with (at_builtin; refine wpList_app_run (by rfl) _ _ rfl rfl rfl HR.out ?_)
          go_roundg (gk - 1)
          case measure => omega
          case rel => exact ⟨i + 1, P9, _, by omega, by go_num, HF⟩
        · have HF := Lib.hid (HP.out.other HX.out HPk.out HS10.out HJ9.out.1 HJ9.out.2.1 HJ9.out.2.2.1 HJ9.out.2.2.2 (by rw [HRm.out]; simp) (by have := keepD_len (keyN c.value) d; omega))
          clear HS10 HKq10 HRm HJ9
          go_wp2
          go_roundg (gk - 1)
          case measure => omega
          case rel => exact ⟨i + 1, P9, _, by omega, by go_num, HF⟩
      · go_wp2_with fail
        refine (HS8.out.call 1 ⟨(HJ7.out.1 1).1.trans HP.out.e1.1, (HJ7.out.1 1).2.trans HP.out.e1.2⟩ (by rw [HJ7.out.2.2.1]; have := HP.out.ln 1; omega) (keyN c.value)).mono ?_
        rintro e w9 ⟨rfl, P9, hS9, hK9, hb9, hd9, hj9⟩
        have HF := Lib.hid (HP.out.bad HX.out HPk.out hS9 (fun j => ⟨(hb9 j).1.trans (HJ7.out.1 j).1, (hb9 j).2.trans (HJ7.out.1 j).2⟩) (by rw [hj9 0 (by decide)]; exact HJ7.out.2.1) (by rw [hd9, HJ7.out.2.2.1]) (by rw [hj9 2 (by decide), HJ7.out.2.2.2]))
        clear y0 y1 hS9 hK9 hb9 hd9 hj9 HS8 HKq8 HKk8 HJ7
        go_wp2
        go_roundg (gk - 1)
        case measure => omega
        case rel => exact ⟨i + 1, P9, d, by omega, by go_num, HF⟩
end Go.Proofs.YtjkiehmjffgnlaaGreatDoor
namespace Go.Proofs.YtjkiehmjffgnlaaGreatDoor
set_option linter.unusedVariables false
set_option linter.unusedSimpArgs false
open Go.RowKit

def fxA : NodeT := .mk [] [120] [97] [] []
def fxB : NodeT := .mk [] [120] [98] [] []
def fxL : List ChgT := [⟨false, fxB⟩, ⟨true, fxA⟩]
def fxE : NodeT := davN [103, 101, 116, 101, 116, 97, 103] [textN [34, 55, 34]]
theorem fx_seven : Lib.itoa 7 = [55] := by decide +kernel
theorem fx_idx (K : List NodeT) : idxFrom ([68, 65, 86, 58], [103, 101, 116, 101, 116, 97, 103]) (allN 1 3 7 K []) 0 = ((2 : Nat) : Int) ∧ (allN 1 3 7 K [])[2]? = some fxE := by
  refine ⟨rfl, ?_⟩
  have h : (allN 1 3 7 K [])[2]? = some (davN [103, 101, 116, 101, 116, 97, 103] [textN (34 :: (Lib.itoa 7 ++ [34]))]) := rfl
  rw [h, fx_seven]
  rfl
theorem fx_idx2 (K : List NodeT) : idxFrom ([120], [113]) (allN 1 3 7 K []) 0 = -1 := rfl
theorem fx_bad : badP fxL = [] := by decide +kernel
theorem fx_now : nowP [fxA] fxL = [fxB] := by rfl
theorem fx_done : fullP [⟨200, doneP fxL⟩] = [⟨200, [bareN ([120], [98]), bareN ([120], [97])]⟩] := by rfl
theorem stab_one {x : NodeT} {l : List NodeT} (h : Stab leN [x] l) : l = [x] := by
  obtain ⟨h1, h2⟩ := h
  rcases l with _ | ⟨y, _ | ⟨z, r⟩⟩
  · cases h1
  · have h3 := h2 x
    rw [show [x].filter (eqv leN x) = [x] from by rw [List.filter_cons, if_pos (eqv_self leN_ok x)]; rfl] at h3
    have hm : x ∈ [y].filter (eqv leN x) := by rw [h3]; exact List.mem_singleton.2 rfl
    have hm2 := List.mem_singleton.1 (List.mem_filter.1 hm).1
    rw [hm2]
  · simp at h1
set_option maxHeartbeats 32000000 in
set_option maxRecDepth 100000 in
set_option linter.unusedSimpArgs false in
theorem fixed18_any (w : World) (hE : MEnv w) : Calls Tryz.prog 7 #[] w (Ret (.bool true) w) := by
  obtain ⟨E, hEE⟩ : ∃ E, E = Ret (.bool true) w := ⟨_, rfl⟩
  rw [← hEE]
  have HEE := Lib.hid hEE
  obtain ⟨hb, h0, h1⟩ := two_alloc w (.cells #[.string ⟨#[97]⟩] 9 (0, 0)) (.cells #[.string ⟨#[68, 65, 86, 58]⟩, .string ⟨#[103, 101, 116, 101, 116, 97, 103]⟩, .string ⟨#[120]⟩, .string ⟨#[113]⟩] 52 (0, 0))
  have hT : SeenP (some ⟨w.heap.size, 0, none⟩) 1 [[97]] 3 7 none 0 [] none 0 [] 0 _ := ⟨⟨_, _, rfl, Nat.le_refl _, by show 1 ≤ maxLen; decide, fun j l hl => by
      match j, hl with
      | 0, hl => injection hl with hl; subst hl; exact ⟨_, _, rfl, xlt h0, xat h0 0⟩
      | j + 1, hl => simp at hl⟩, Tab.nil _ _ _, Tab.nil _ _ _, (fun l hl => by cases hl), (fun h => absurd rfl h), Nat.zero_le _, Nat.zero_le _, by decide, by decide, by decide, by decide, hE.below hb⟩
  have HTe := Lib.hid (tell_two (kind := 1) (w.heap.size + 1) 0 2 2 [68, 65, 86, 58] [103, 101, 116, 101, 116, 97, 103] [120] [113] fxE (xlt h1) (Nat.le_refl _) (by decide) (xat h1 0) (xat h1 1) (xat h1 2) (xat h1 3) fx_idx fx_idx2 hT)
  have HB := Lib.hid hb
  have HE := Lib.hid hE
  clear hEE hE hb h0 h1 hT
  go_enter Tryz.func7, Tryz.ntmps7
  go_wp2_with fail
  refine HTe.out.mono ?_
  rintro e w5 ⟨b5, rfl, hp5, hb5⟩
  have hlo := HB.out.trans (hb5.mono HB.out.size)
  obtain ⟨hc, g0, g1⟩ := two_alloc w5 (.cells #[.string ⟨#[]⟩, .string ⟨#[120]⟩, .string ⟨#[97]⟩, .slice none 0 0, .slice none 0 0] 46 (0, 0)) (.cells #[.bool false, .string ⟨#[]⟩, .string ⟨#[120]⟩, .string ⟨#[98]⟩, .slice none 0 0, .slice none 0 0, .bool true, .string ⟨#[]⟩, .string ⟨#[120]⟩, .string ⟨#[97]⟩, .slice none 0 0, .slice none 0 0] 54 (0, 0))
  have hna : ∀ (Q : Nat → Prop) (W : World), NodeP Q W [.string ⟨#[]⟩, .string ⟨#[120]⟩, .string ⟨#[97]⟩, .slice none 0 0, .slice none 0 0] fxA := fun Q W => NodeP.of (t := []) (s := [120]) (n := [97]) (ats := []) (ks := []) (TabP.nil _ _ _ _) (TabP.nil _ _ _ _)
  have hnb : ∀ (Q : Nat → Prop) (W : World), NodeP Q W [.string ⟨#[]⟩, .string ⟨#[120]⟩, .string ⟨#[98]⟩, .slice none 0 0, .slice none 0 0] fxB := fun Q W => NodeP.of (t := []) (s := [120]) (n := [98]) (ats := []) (ks := []) (TabP.nil _ _ _ _) (TabP.nil _ _ _ _)
  have HPa := Lib.hid (patch_any (some ⟨w5.heap.size, 0, none⟩) 1 [fxA] (some ⟨w5.heap.size + 1, 0, none⟩) 2 fxL _ (nodes_lit1 (r := [.string ⟨#[]⟩, .string ⟨#[120]⟩, .string ⟨#[97]⟩, .slice none 0 0, .slice none 0 0]) (P := anyB) g0 (hna _ _) trivial).1 (fun e => by cases e) (many_row (P := anyB) (n := 6) (rows := [[.bool false, .string ⟨#[]⟩, .string ⟨#[120]⟩, .string ⟨#[98]⟩, .slice none 0 0, .slice none 0 0], [.bool true, .string ⟨#[]⟩, .string ⟨#[120]⟩, .string ⟨#[97]⟩, .slice none 0 0, .slice none 0 0]]) (xs := fxL) g1 (fun r hr => by
      simp only [List.mem_cons, List.not_mem_nil, or_false] at hr
      rcases hr with rfl | rfl <;> rfl) rfl (show 2 ≤ maxLen by decide) (fun j r x hr hx => by
      match j, hr, hx with
      | 0, hr, hx => injection hr with hr; injection hx with hx; subst hr hx; exact ⟨_, rfl, hnb _ _⟩
      | 1, hr, hx => injection hr with hr; injection hx with hx; subst hr hx; exact ⟨_, rfl, hna _ _⟩
      | j + 2, hr, hx => simp at hr) trivial).1 (by decide) (by decide))
  have HP5 := Lib.hid (hp5.under hc)
  have HC := Lib.hid (hlo.trans (hc.mono hlo.size))
  clear hp5 hb5 hlo hc g0 g1 hna hnb HTe HB
  go_wp2_with fail
  refine HPa.out.mono ?_
  rintro e w7 ⟨A, c, res, pv, parts, ok, rfl, hN, -, hP, hb7, hok, -⟩
  obtain ⟨rfl, hsr, hst, hpa⟩ := hok fx_bad
  rw [fx_now] at hst
  have hres := stab_one hst
  subst hres
  rw [fx_done] at hpa
  subst hpa
  have hp7 := HP5.out.under hb7
  have HL7 := Lib.hid (HC.out.trans (hb7.mono HC.out.size))
  obtain ⟨qA, qc, hqv, -, -⟩ := (show ∃ A c, pv = .slice A 1 c ∧ True ∧ True from by obtain ⟨A, c, h, -⟩ := hP.1; exact ⟨A, c, h, trivial, trivial⟩)
  subst hqv
  obtain ⟨-, hq1, hq2, hqk⟩ := part_at hP.1
  obtain ⟨-, -, -, hpk⟩ := part_at hp7.1
  obtain ⟨p, o, xA, xc, hpe, hpl, u0, u1, hx⟩ := hpk 0 _ rfl
  obtain ⟨p', o', zA, zc, hpe', hpl', u2, u3, hz⟩ := hpk 1 _ rfl
  injection hpe with hpe
  injection hpe with e1 e2
  injection hpe' with hpe'
  injection hpe' with e3 e4
  subst e1 e2 e3 e4
  obtain ⟨-, hx1, hx2, hxk⟩ := kid_at hx
  obtain ⟨n0, m0, aA0, ac0, kA0, kc0, hxA, hn0l, v0, v1, v2, v3, v4, hat0, hkd0⟩ := hxk 0 _ rfl
  subst hxA
  obtain ⟨-, hk1, hk2, hkk⟩ := kid_at hkd0
  obtain ⟨n1, m1, aA1, ac1, kA1, kc1, hkA, hn1l, t0, t1, t2, t3, t4, -, -⟩ := hkk 0 _ rfl
  subst hkA
  obtain ⟨-, hd1, hd2, hdk⟩ := kid_at hN
  obtain ⟨n2, m2, aA2, ac2, kA2, kc2, hdA, hn2l, s0, s1, s2, s3, s4, -, -⟩ := hdk 0 _ rfl
  subst hdA
  obtain ⟨p3, o3, yA, yc, hqA, hp3l, r0, r1, -⟩ := hqk 0 _ rfl
  subst hqA
  have a0 : w7.cell? ⟨b5, 0, none⟩ = some (.int .i64 200) := u0
  have a1 : w7.cell? ⟨b5, 1, none⟩ = some (.slice (some ⟨n0, m0, none⟩) 1 xc) := u1
  have a2 : w7.cell? ⟨b5, 2, none⟩ = some (.int .i64 404) := u2
  have a4 : w7.cell? ⟨n0, m0 + 4, none⟩ = some (.slice (some ⟨n1, m1, none⟩) 1 kc0) := v4
  have a5 : w7.cell? ⟨n1, m1, none⟩ = some (.string ⟨#[34, 55, 34]⟩) := t0
  have a6 : w7.cell? ⟨n2, m2 + 2, none⟩ = some (.string ⟨#[98]⟩) := s2
  have a7 : w7.cell? ⟨p3, o3 + 1, none⟩ = some (.slice yA 2 yc) := r1
  have HPr := Lib.hid (protected_any [68, 65, 86, 58] [103, 101, 116, 101, 116, 97, 103] w7)
  rw [show protK ([68, 65, 86, 58], [103, 101, 116, 101, 116, 97, 103]) = true from by decide +kernel] at HPr
  replace HPa : True := trivial
  clear u0 u1 u2 u3 v0 v1 v2 v3 v4 t0 t1 t2 t3 t4 s0 s1 s2 s3 s4 r0 r1 hx hz hxk hkk hdk hqk hpk hP hN hp7 hat0 hkd0 hb7 hsr hst HP5 HC HPa
  go_wp2_with fail
  refine HPr.out.mono ?_
  rintro e w8 ⟨rfl, q8, os8, he8⟩
  have HF := Lib.hid (show Below w.heap.size w w8 from HL7.out.trans ((he8 ▸ below_grown w7 q8 os8 : Below w7.heap.size w7 w8).mono HL7.out.size))
  clear he8
  go_wp2
  rw [HEE.out]
  exact ⟨rfl, HF.out⟩
end Go.Proofs.YtjkiehmjffgnlaaGreatDoor
namespace Go.Proofs.YtjkiehmjffgnlaaGreatDoor
set_option linter.unusedVariables false
set_option linter.unusedSimpArgs false
open Go.ChangeShapes Go.WideShapes Go.ChangeAt Go.RowKit Go.Deep

theorem read_strs : Tryz.prog.readableRec 31 = true := by kernel_rfl
theorem row_strs : 31 < Tryz.prog.types.size := of_decide_eq_true (by kernel_rfl)
theorem read_seen : Tryz.prog.readableRec 39 = true := by kernel_rfl
theorem row_seen : 39 < Tryz.prog.types.size := of_decide_eq_true (by kernel_rfl)
section
variable {H : Type} {enc : TypeId × Value → H}
set_option maxRecDepth 100000 in
theorem lstrs_of_cells {W : World} {fuel : Nat} {v : Value} {x : DataW H × List MemPlace} (h : DataW.trod enc Tryz.prog W 0 (fun _ => true) true fuel 31 [v] = some x) : ∃ ls, Strs W v ls ∧ Fits ls := by
  have hc1 : Tryz.prog.cellsOf 9 = 1 := by kernel_rfl
  rcases open_strings Tryz.underlying31 Tryz.underlying9 hc1 h with ⟨hcs, hx⟩ | ⟨a, len, cap, ss, hcs, _, hl, hm, hz, hx, hcell, hws⟩
  · injection hcs with hcs
    subst hcs
    exact ⟨[], ⟨none, 0, rfl, Nat.le_refl _, Nat.zero_le _, fun j l hj => by simp at hj⟩, fun j l hj => by simp at hj⟩
  · injection hcs with hcs
    subst hcs
    simp only [if_true] at hz
    refine ⟨(ss.take len).map (·.data.toList), ⟨some a, cap, by simp [hz, hl], by simp; omega, hm, fun j l hj => ?_⟩, fun j l hj => ?_⟩
    · rw [List.getElem?_map, List.getElem?_take] at hj
      split at hj
      · rename_i hlt
        obtain ⟨s, hs, rfl⟩ := Option.map_eq_some_iff.1 hj
        have h0 := hcell 0 (by omega)
        have hj' := hcell j (by omega)
        have hlt0 := cell_lt h0
        have hsp := addr_plain (show W.cell? a = _ from h0)
        obtain ⟨b, o, sp⟩ := a
        simp only at hsp
        subst hsp
        refine ⟨b, o, rfl, hlt0, ?_⟩
        rw [add_eq] at hj'
        rw [hj', List.getD_eq_getElem?_getD, hs]
        simp
      · cases hj
    · rw [List.getElem?_map] at hj
      obtain ⟨s, hs, rfl⟩ := Option.map_eq_some_iff.1 hj
      have := hws s (List.mem_of_mem_take (List.mem_of_getElem? hs))
      have e : s.data.toList.length = s.size := Array.length_toList
      rw [e]; exact this
set_option maxRecDepth 100000 in
theorem strs_of_trod {W : World} {v : Value} {d : DataW H} {ps : List MemPlace} (hv : Value.okWide Tryz.prog W .any 0 31 v) (h : DataW.Trod enc Tryz.prog W 0 (fun _ => true) true 31 v d ps) : ∃ a, Strs W v a ∧ Fits a := by
  obtain ⟨fuel, hf⟩ := trod_one Tryz.underlying31 hv h
  exact lstrs_of_cells hf
theorem nine' {α : Type} {l : List α} (h : l.length = 9) : ∃ a b c d e f g i j, l = [a, b, c, d, e, f, g, i, j] := by
  rcases l with _ | ⟨a, _ | ⟨b, _ | ⟨c, _ | ⟨d, _ | ⟨e, _ | ⟨f, _ | ⟨g, _ | ⟨i, _ | ⟨j, _ | ⟨k, r⟩⟩⟩⟩⟩⟩⟩⟩⟩⟩ <;> simp at h
  exact ⟨_, _, _, _, _, _, _, _, _, rfl⟩
def ownM (l : LockT) : Nat := l.owner.length
set_option maxRecDepth 100000 in
theorem locks_of_cells {W : World} {fuel : Nat} {v : Value} {x : DataW H × List MemPlace} (h : DataW.trod enc Tryz.prog W 0 (fun _ => true) true fuel 34 [v] = some x) : ∃ ls, Locks W v ls ∧ (∀ l ∈ ls, Fits l.path) ∧ (ls.map ownM).sum + ls.length ≤ Rows.uptoBulk x.1 := by
  obtain ⟨l, h1, h2⟩ := tab_of_trod_el (W := W) (α := LockT) (fun w cs l => LockR w cs l ∧ Fits l.path) ownM Tryz.underlying34 (n := 6) (by kernel_rfl) (by decide) (fun cs y k hc hlt htr => by
    obtain ⟨xs, k', _, hx, hcl, hlen, hg⟩ := DataW.trod_struct Tryz.underlying48 htr
    obtain ⟨c0, c1, c2, c3, c4, c5, rfl⟩ := six' hc
    obtain ⟨z0, z1, z2, z3, z4, z5, rfl⟩ := six' (l := xs) hlen
    have s0 : Tryz.prog.cellsOf 9 = 1 := by kernel_rfl
    have s1 : Tryz.prog.cellsOf 31 = 1 := by kernel_rfl
    have s2 : Tryz.prog.cellsOf 4 = 1 := by kernel_rfl
    have s3 : Tryz.prog.cellsOf 2 = 1 := by kernel_rfl
    have g0 : DataW.trod enc Tryz.prog W 0 (fun _ => true) true k' 9 (([c0, c1, c2, c3, c4, c5].drop 0).take (Tryz.prog.cellsOf 9)) = [z0, z1, z2, z3, z4, z5][0]? := hg 0 _ rfl
    have g1 : DataW.trod enc Tryz.prog W 0 (fun _ => true) true k' 31 (([c0, c1, c2, c3, c4, c5].drop 1).take (Tryz.prog.cellsOf 31)) = [z0, z1, z2, z3, z4, z5][1]? := hg 1 _ rfl
    have g2 : DataW.trod enc Tryz.prog W 0 (fun _ => true) true k' 4 (([c0, c1, c2, c3, c4, c5].drop 2).take (Tryz.prog.cellsOf 4)) = [z0, z1, z2, z3, z4, z5][2]? := hg 2 _ rfl
    have g3 : DataW.trod enc Tryz.prog W 0 (fun _ => true) true k' 4 (([c0, c1, c2, c3, c4, c5].drop 3).take (Tryz.prog.cellsOf 4)) = [z0, z1, z2, z3, z4, z5][3]? := hg 3 _ rfl
    have g4 : DataW.trod enc Tryz.prog W 0 (fun _ => true) true k' 9 (([c0, c1, c2, c3, c4, c5].drop 4).take (Tryz.prog.cellsOf 9)) = [z0, z1, z2, z3, z4, z5][4]? := hg 4 _ rfl
    have g5 : DataW.trod enc Tryz.prog W 0 (fun _ => true) true k' 2 (([c0, c1, c2, c3, c4, c5].drop 5).take (Tryz.prog.cellsOf 2)) = [z0, z1, z2, z3, z4, z5][5]? := hg 5 _ rfl
    rw [s0] at g0 g4
    rw [s1] at g1
    rw [s2] at g2 g3
    rw [s3] at g5
    obtain ⟨t0, rfl, hb0⟩ := str_open (z := z0) g0
    obtain ⟨p1, hp1, hf1⟩ := lstrs_of_cells (x := z1) g1
    obtain ⟨b2, hb2, -⟩ := DataW.trod_bool Tryz.underlying4 (x := z2) g2
    obtain ⟨b3, hb3, -⟩ := DataW.trod_bool Tryz.underlying4 (x := z3) g3
    obtain ⟨t4, rfl, hb4⟩ := str_open (z := z4) g4
    obtain ⟨i5, hi5, -, -⟩ := DataW.trod_int Tryz.underlying2 (x := z5) g5
    injection hb2 with hb2
    injection hb3 with hb3
    injection hi5 with hi5
    subst hb2 hb3 hi5
    obtain ⟨pa, pc, rfl, q1, q2, q3⟩ := hp1
    refine ⟨⟨t0, p1, b2, b3, t4, i5⟩, ⟨⟨pa, pc, rfl, ⟨_, _, rfl, q1, q2, q3⟩⟩, hf1⟩, ?_⟩
    rw [hx]
    simp only [Rows.uptoBulk, Rows.uptoBulkAll, List.map_cons, List.map_nil, hb0, hb4, ownM]
    omega) h
  obtain ⟨A, cap, hv, r1, r2, r3⟩ := h1
  refine ⟨l, ⟨A, cap, hv, r1, r2, fun j x hj => ?_⟩, fun x hx => ?_, h2⟩
  · obtain ⟨b, o, hA, hb, cs, hl, hcell, hr, -⟩ := r3 j x hj
    exact ⟨b, o, hA, hb, cs, hl, hcell, hr⟩
  · obtain ⟨j, hj⟩ := List.getElem?_of_mem hx
    obtain ⟨b, o, hA, hb, cs, hl, hcell, -, hf⟩ := r3 j x hj
    exact hf
theorem own_le : ∀ {ls : List LockT} {l : LockT}, l ∈ ls → (ls.map ownM).sum ≤ 2 ^ 63 - 1 → l.owner.length ≤ 2 ^ 63 - 1
  | y :: r, l, h, hs => by
    rw [List.map_cons, List.sum_cons] at hs
    rcases List.mem_cons.1 h with rfl | h
    · unfold ownM at hs; omega
    · exact own_le h (by omega)
/-- what is seen, by its fields. -/
structure SeenA (W : World) (v : Value) (n : Nat) where
  sA : Option Addr
  sc : Nat
  path : List (List UInt8)
  kind : Int
  size : Int
  etag : Int
  dA : Option Addr
  dc : Nat
  dead : List NodeT
  lA : Option Addr
  lc : Nat
  ls : List LockT
  now : Int
  fk : Int
  nA : Option Addr
  nn : Nat
  nc : Nat
  hv : v = .agg #[.slice sA path.length sc, .int .i64 kind, .int .i64 size, .int .i64 etag, .slice dA dead.length dc, .slice lA ls.length lc, .int .i64 now, .int .i64 fk, .slice nA nn nc]
  hp : Strs W (.slice sA path.length sc) path
  hd : Tab 5 (NodeP anyB) W (.slice dA dead.length dc) dead
  hl : Locks W (.slice lA ls.length lc) ls
  hf : ∀ l ∈ ls, Fits l.path
  hs : size ≤ 9223372036854775807
  he : etag ≤ 9223372036854775807
  hb : dead.length + (ls.map ownM).sum + ls.length ≤ n
set_option maxRecDepth 100000 in
theorem seen_of_trod {W : World} {v : Value} {d : DataW H} {ps : List MemPlace} (hv : Value.okWide Tryz.prog W .any 0 39 v) (h : DataW.Trod enc Tryz.prog W 0 (fun _ => true) true 39 v d ps) : Nonempty (SeenA W v (Rows.uptoBulk d)) := by
  obtain ⟨cs, rfl, hsz⟩ := okWide_struct Tryz.underlying39 hv
  obtain ⟨l⟩ := cs
  obtain ⟨fuel, hf⟩ := h
  have hf' : DataW.trod enc Tryz.prog W 0 (fun _ => true) true fuel 39 l = some (d, ps) := hf
  obtain ⟨xs, k', _, hx, hcl, hlen, hg⟩ := DataW.trod_struct Tryz.underlying39 hf'
  have hn : Tryz.prog.cellsOf 39 = 9 := by kernel_rfl
  rw [hn] at hcl
  obtain ⟨c0, c1, c2, c3, c4, c5, c6, c7, c8, rfl⟩ := nine' hcl
  obtain ⟨z0, z1, z2, z3, z4, z5, rfl⟩ := six' (l := xs) hlen
  have g0 : DataW.trod enc Tryz.prog W 0 (fun _ => true) true k' 31 (([c0, c1, c2, c3, c4, c5, c6, c7, c8].drop 0).take (Tryz.prog.cellsOf 31)) = [z0, z1, z2, z3, z4, z5][0]? := hg 0 _ rfl
  have g1 : DataW.trod enc Tryz.prog W 0 (fun _ => true) true k' 33 (([c0, c1, c2, c3, c4, c5, c6, c7, c8].drop 1).take (Tryz.prog.cellsOf 33)) = [z0, z1, z2, z3, z4, z5][1]? := hg 1 _ rfl
  have g2 : DataW.trod enc Tryz.prog W 0 (fun _ => true) true k' 22 (([c0, c1, c2, c3, c4, c5, c6, c7, c8].drop 4).take (Tryz.prog.cellsOf 22)) = [z0, z1, z2, z3, z4, z5][2]? := hg 2 _ rfl
  have g3 : DataW.trod enc Tryz.prog W 0 (fun _ => true) true k' 34 (([c0, c1, c2, c3, c4, c5, c6, c7, c8].drop 5).take (Tryz.prog.cellsOf 34)) = [z0, z1, z2, z3, z4, z5][3]? := hg 3 _ rfl
  have g4 : DataW.trod enc Tryz.prog W 0 (fun _ => true) true k' 2 (([c0, c1, c2, c3, c4, c5, c6, c7, c8].drop 6).take (Tryz.prog.cellsOf 2)) = [z0, z1, z2, z3, z4, z5][4]? := hg 4 _ rfl
  have g5 : DataW.trod enc Tryz.prog W 0 (fun _ => true) true k' 37 (([c0, c1, c2, c3, c4, c5, c6, c7, c8].drop 7).take (Tryz.prog.cellsOf 37)) = [z0, z1, z2, z3, z4, z5][5]? := hg 5 _ rfl
  have s0 : Tryz.prog.cellsOf 31 = 1 := by kernel_rfl
  have s1 : Tryz.prog.cellsOf 33 = 3 := by kernel_rfl
  have s2 : Tryz.prog.cellsOf 22 = 1 := by kernel_rfl
  have s3 : Tryz.prog.cellsOf 34 = 1 := by kernel_rfl
  have s4 : Tryz.prog.cellsOf 2 = 1 := by kernel_rfl
  have s5 : Tryz.prog.cellsOf 37 = 2 := by kernel_rfl
  have s6 : Tryz.prog.cellsOf 3 = 1 := by kernel_rfl
  have s7 : Tryz.prog.cellsOf 35 = 1 := by kernel_rfl
  rw [s0] at g0
  rw [s1] at g1
  rw [s2] at g2
  rw [s3] at g3
  rw [s4] at g4
  rw [s5] at g5
  obtain ⟨p1, hp1, -⟩ := lstrs_of_cells (x := z0) g0
  obtain ⟨pa, pc, rfl, q1, q2, q3⟩ := hp1
  obtain ⟨is, m1, _, hi, hil, hin, hig⟩ := DataW.trod_struct Tryz.underlying33 g1
  have i0 : DataW.trod enc Tryz.prog W 0 (fun _ => true) true m1 3 (([c1, c2, c3].drop 0).take (Tryz.prog.cellsOf 3)) = is[0]? := hig 0 _ rfl
  have i1 : DataW.trod enc Tryz.prog W 0 (fun _ => true) true m1 3 (([c1, c2, c3].drop 1).take (Tryz.prog.cellsOf 3)) = is[1]? := hig 1 _ rfl
  have i2 : DataW.trod enc Tryz.prog W 0 (fun _ => true) true m1 2 (([c1, c2, c3].drop 2).take (Tryz.prog.cellsOf 2)) = is[2]? := hig 2 _ rfl
  rw [s6] at i0 i1
  rw [s4] at i2
  obtain ⟨w0, w1, w2, rfl⟩ : ∃ a b c, is = [a, b, c] := by
    have h : is.length = 3 := hin
    rcases is with _ | ⟨a, _ | ⟨b, _ | ⟨c, _ | ⟨k, r⟩⟩⟩⟩ <;> simp at h
    exact ⟨_, _, _, rfl⟩
  obtain ⟨j0, hj0, -, -⟩ := DataW.trod_int Tryz.underlying3 (x := w0) i0
  obtain ⟨j1, hj1, -, hb1⟩ := DataW.trod_int Tryz.underlying3 (x := w1) i1
  obtain ⟨j2, hj2, -, hb2⟩ := DataW.trod_int Tryz.underlying2 (x := w2) i2
  injection hj0 with hj0
  injection hj1 with hj1
  injection hj2 with hj2
  subst hj0 hj1 hj2
  obtain ⟨dl, hdl, hdb⟩ := nodes_of_cells _ (Nat.lt_succ_self _) (x := z2) g2
  obtain ⟨dA, dc, rfl⟩ := tab_shape hdl.1
  obtain ⟨ll, hll, hlf, hlb⟩ := locks_of_cells (x := z3) g3
  obtain ⟨lA, lc, rfl⟩ := tab_shape hll
  obtain ⟨j4, hj4, -, -⟩ := DataW.trod_int Tryz.underlying2 (x := z4) g4
  injection hj4 with hj4
  subst hj4
  obtain ⟨fs, m2, _, hfi, hfl, hfn, hfg⟩ := DataW.trod_struct Tryz.underlying37 g5
  have f0 : DataW.trod enc Tryz.prog W 0 (fun _ => true) true m2 3 (([c7, c8].drop 0).take (Tryz.prog.cellsOf 3)) = fs[0]? := hfg 0 _ rfl
  have f1 : DataW.trod enc Tryz.prog W 0 (fun _ => true) true m2 35 (([c7, c8].drop 1).take (Tryz.prog.cellsOf 35)) = fs[1]? := hfg 1 _ rfl
  rw [s6] at f0
  rw [s7] at f1
  obtain ⟨y0, y1, rfl⟩ := two' (l := fs) hfn
  obtain ⟨j7, hj7, -, -⟩ := DataW.trod_int Tryz.underlying3 (x := y0) f0
  injection hj7 with hj7
  subst hj7
  have hns : ∃ A n c, c8 = .slice A n c := by
    rcases open_slice Tryz.underlying35 (x := y1) f1 with ⟨hw, -⟩ | ⟨a, len, cap, M, k, D, Pl, hw, -⟩
    · injection hw with hw; exact ⟨_, _, _, hw⟩
    · injection hw with hw; exact ⟨_, _, _, hw⟩
  obtain ⟨nA, nn, nc, rfl⟩ := hns
  have hbk : dl.length + (ll.map ownM).sum + ll.length ≤ Rows.uptoBulk d := by
    injection hx with hx _
    rw [hx]
    have h1 := bulkTL_len dl
    simp only [Rows.uptoBulk, Rows.uptoBulkAll, List.map_cons, List.map_nil]
    omega
  exact ⟨⟨pa, pc, p1, j0, j1, j2, dA, dc, dl, lA, lc, ll, j4, j7, nA, nn, nc, rfl, ⟨pa, pc, rfl, q1, q2, q3⟩, hdl.1, hll, hlf, by
    have h : -9223372036854775808 ≤ j1 ∧ j1 ≤ 9223372036854775807 := by simpa [Lit.wf, IntKind.min, IntKind.max, IntKind.signed, IntKind.bits] using hb1
    exact h.2, by
    have h : -9223372036854775808 ≤ j2 ∧ j2 ≤ 9223372036854775807 := by simpa [Lit.wf, IntKind.min, IntKind.max, IntKind.signed, IntKind.bits] using hb2
    exact h.2, hbk⟩⟩
end
end Go.Proofs.YtjkiehmjffgnlaaGreatDoor
namespace Go.Proofs.YtjkiehmjffgnlaaGreatDoor
set_option linter.unusedVariables false
set_option linter.unusedSimpArgs false
open Go.RowKit

def farL (now : Int) (l : LockT) : Bool := decide (now < -2305843009213693952) || decide (2305843009213693952 < l.upto)
def farB (size etag : Int) (ls : List LockT) (now : Int) : Bool := (ls.any (farL now)) || (decide (size < 0) || decide (etag < 0))
set_option maxHeartbeats 16000000 in
set_option maxRecDepth 100000 in
set_option linter.unusedSimpArgs false in
theorem far_any (pA : Option Addr) (pn pc : Nat) (kind size etag : Int) (dA : Option Addr) (dn dc : Nat) (lA : Option Addr) (lc : Nat) (ls : List LockT) (now fk : Int) (nA : Option Addr) (nn nc : Nat) (w : World) (hl : Locks w (.slice lA ls.length lc) ls) :
    Calls Tryz.prog 12 #[.agg #[.slice pA pn pc, .int .i64 kind, .int .i64 size, .int .i64 etag, .slice dA dn dc, .slice lA ls.length lc, .int .i64 now, .int .i64 fk, .slice nA nn nc]] w (Ret (.bool (farB size etag ls now)) w) := by
  obtain ⟨E, hEE⟩ : ∃ E, E = Ret (.bool (farB size etag ls now)) w := ⟨_, rfl⟩
  rw [← hEE]
  have HEE := Lib.hid hEE
  have hba : Below w.heap.size w (w.alloc (.cells #[.slice pA pn pc, .int .i64 kind, .int .i64 size, .int .i64 etag, .slice dA dn dc, .slice lA ls.length lc, .int .i64 now, .int .i64 fk, .slice nA nn nc] 39 (0, 0))) := (Below.refl _ _).alloc (Nat.le_refl _) _
  have hqa := heap_alloc_new w (.cells #[.slice pA pn pc, .int .i64 kind, .int .i64 size, .int .i64 etag, .slice dA dn dc, .slice lA ls.length lc, .int .i64 now, .int .i64 fk, .slice nA nn nc] 39 (0, 0))
  obtain ⟨-, hlc, hlm, hlk⟩ := lock_at hl
  unfold maxLen at hlm
  have HLk := Lib.hid hlk
  have HB := Lib.hid hba
  have y2 := xat hqa 2
  have y3 := xat hqa 3
  have y5 := xat hqa 5
  have y6 := xat hqa 6
  simp only [List.getElem?_toArray, List.getElem?_cons_zero, List.getElem?_cons_succ] at y2 y3 y5 y6
  clear hEE hl hlk hba hqa
  go_enter Tryz.func12, Tryz.ntmps12
  go_wp2_with fail
  generalize w.alloc (.cells #[.slice pA pn pc, .int .i64 kind, .int .i64 size, .int .i64 etag, .slice dA dn dc, .slice lA ls.length lc, .int .i64 now, .int .i64 fk, .slice nA nn nc] 39 (0, 0)) = W at *
  obtain ⟨q, hq⟩ : ∃ q, q = w.heap.size := ⟨_, rfl⟩
  rw [← hq] at y2 y3 y5 y6 ⊢
  clear hq
  go_loopg [3] ls.length (fun gk v3 wr => ∃ i : Nat, i + gk = ls.length ∧ v3 = .int .i64 i ∧ wr = W ∧ Hid ((ls.take i).any (farL now) = false))
  case atStart => exact ⟨0, by omega, rfl, rfl, Lib.hid rfl⟩
  case round =>
    obtain ⟨i, hig, rfl, rfl, HNo⟩ := hrel
    rcases hd : ls.drop i with _ | ⟨l, rest⟩
    · have hi2 : i = ls.length := by have := drop_nil hd; omega
      subst hi2
      have HV := Lib.hid (show farB size etag ls now = (decide (size < 0) || decide (etag < 0)) by
        have h := HNo.out
        rw [List.take_length] at h
        unfold farB
        rw [h, Bool.false_or])
      have k1 : ¬ ((ls.length : Int) < ls.length) := by omega
      clear hd HNo HLk
      by_cases h1 : size < 0
      · rw [decide_eq_true h1, Bool.true_or] at HV
        go_wp2
        rw [HEE.out, HV.out]
        exact ⟨rfl, HB.out⟩
      · rw [decide_eq_false h1, Bool.false_or] at HV
        by_cases h2 : etag < 0
        · rw [decide_eq_true h2] at HV
          go_wp2
          rw [HEE.out, HV.out]
          exact ⟨rfl, HB.out⟩
        · rw [decide_eq_false h2] at HV
          go_wp2
          rw [HEE.out, HV.out]
          exact ⟨rfl, HB.out⟩
    · obtain ⟨hlt, hx, hr⟩ := drop_consA hd
      obtain ⟨bl, o, sA, sc, rfl, hbl, c0, c1, c2, c3, c4, c5, hst⟩ := HLk.out i l hx
      have e5 : wr.cell? ⟨bl, o + i * 6 + 5, none⟩ = some (.int .i64 l.upto) := by rw [cell_eq (HB.out.block bl hbl)]; exact c5
      have k1 : (i : Int) < ls.length := by omega
      have k2 : (0 : Int) ≤ i := by omega
      have HIn := Lib.hid (show (ls.take (i + 1)).any (farL now) = farL now l by
        rw [List.take_add_one, hx, Option.toList_some, List.any_append, HNo.out, Bool.false_or]
        simp)
      have HMem := Lib.hid (List.mem_of_getElem? hx)
      clear c0 c1 c2 c3 c4 c5 hst hd hr hx
      by_cases h1 : now < -2305843009213693952
      · have HV := Lib.hid (show farB size etag ls now = true by
          unfold farB
          rw [List.any_eq_true.2 ⟨l, HMem.out, by unfold farL; rw [decide_eq_true h1]; rfl⟩, Bool.true_or])
        go_wp2
        rw [HEE.out, HV.out]
        exact ⟨rfl, HB.out⟩
      · by_cases h2 : 2305843009213693952 < l.upto
        · have HV := Lib.hid (show farB size etag ls now = true by
            unfold farB
            rw [List.any_eq_true.2 ⟨l, HMem.out, by unfold farL; rw [decide_eq_true h2, Bool.or_true]⟩, Bool.true_or])
          go_wp2
          rw [HEE.out, HV.out]
          exact ⟨rfl, HB.out⟩
        · have HN2 := Lib.hid (show (ls.take (i + 1)).any (farL now) = false by rw [HIn.out]; unfold farL; rw [decide_eq_false h1, decide_eq_false h2]; rfl)
          go_wp2
          go_roundg (gk - 1)
          case measure => omega
          case rel => exact ⟨i + 1, by omega, by go_num, rfl, HN2⟩
end Go.Proofs.YtjkiehmjffgnlaaGreatDoor
namespace Go.Proofs.YtjkiehmjffgnlaaGreatDoor
set_option linter.unusedVariables false
set_option linter.unusedSimpArgs false
open Go.RowKit

def samB (p lp : List (List UInt8)) (k : Nat) : Bool := decide (lp.length ≤ p.length) && decide (lp.take k = p.take k)
theorem samB_zero (p lp : List (List UInt8)) : samB p lp 0 = decide (lp.length ≤ p.length) := by unfold samB; simp
theorem samB_end (p lp : List (List UInt8)) : samB p lp lp.length = UriN.withinS p lp := by
  unfold samB UriN.withinS
  rw [Bool.eq_iff_iff, Bool.and_eq_true, decide_eq_true_eq, decide_eq_true_eq, List.isPrefixOf_iff_prefix, List.prefix_iff_eq_take]
  constructor
  · rintro ⟨-, h⟩; rw [List.take_length] at h; exact h
  · intro h
    refine ⟨?_, by rw [List.take_length]; exact h⟩
    have := congrArg List.length h
    rw [List.length_take] at this
    omega
theorem samB_next {p lp : List (List UInt8)} {k : Nat} {x y : List UInt8} (hx : lp[k]? = some x) (hy : p[k]? = some y) (h : samB p lp k = true) : samB p lp (k + 1) = (y == x) := by
  unfold samB at h ⊢
  rw [Bool.and_eq_true, decide_eq_true_eq, decide_eq_true_eq] at h
  rw [decide_eq_true h.1, Bool.true_and, take_at hx, take_at hy, h.2, Bool.eq_iff_iff, decide_eq_true_eq, beq_iff_eq]
  constructor
  · intro e
    have := List.append_cancel_left e
    injection this with this
    exact this.symm
  · intro e; rw [e]
theorem samB_false {p lp : List (List UInt8)} {k : Nat} (hk : k ≤ lp.length) (h : samB p lp k = false) : UriN.withinS p lp = false := by
  rw [← samB_end]
  unfold samB at h ⊢
  rw [Bool.eq_false_iff] at h ⊢
  intro e
  refine h ?_
  rw [Bool.and_eq_true, decide_eq_true_eq, decide_eq_true_eq] at e ⊢
  refine ⟨e.1, ?_⟩
  have h2 := congrArg (List.take k) e.2
  rw [List.take_length, List.take_take, Nat.min_eq_left hk] at h2
  exact h2
set_option maxHeartbeats 32000000 in
set_option maxRecDepth 100000 in
set_option linter.unusedSimpArgs false in
theorem law_path (p : List (List UInt8)) (v1 : Value) (sA : Option Addr) (sn sc : Nat) (kind size etag : Int) (dA : Option Addr) (dn dc : Nat) (lA : Option Addr) (lc : Nat) (ls : List LockT) (now fk : Int) (nA : Option Addr) (nn nc : Nat) (w : World) (hp : Strs w v1 p) (hl : Locks w (.slice lA ls.length lc) ls) (hok : ∀ l ∈ ls, Fits l.path ∧ l.owner.length ≤ 2 ^ 63 - 1) (hls : ls.length ≤ 2000000) (hE : MEnv w) :
    Calls Tryz.prog 6 #[.agg #[.slice sA sn sc, .int .i64 kind, .int .i64 size, .int .i64 etag, .slice dA dn dc, .slice lA ls.length lc, .int .i64 now, .int .i64 fk, .slice nA nn nc], v1] w (Ret (.bool true) w) := by
  obtain ⟨E, hEE⟩ : ∃ E, E = Ret (.bool true) w := ⟨_, rfl⟩
  rw [← hEE]
  have HEE := Lib.hid hEE
  have HPs := Lib.hid hp
  obtain ⟨pA, pc, rfl, hpc1, hpc2, hpk⟩ := hp
  unfold maxLen at hpc2
  have HPk := Lib.hid hpk
  obtain ⟨-, hlc, hlm, hlk⟩ := lock_at hl
  unfold maxLen at hlm
  have HLk := Lib.hid hlk
  have HL := Lib.hid hl
  have HOk := Lib.hid hok
  have HE := Lib.hid hE
  have hba : Below w.heap.size w (w.alloc (.cells #[.slice sA sn sc, .int .i64 kind, .int .i64 size, .int .i64 etag, .slice dA dn dc, .slice lA ls.length lc, .int .i64 now, .int .i64 fk, .slice nA nn nc] 39 (0, 0))) := (Below.refl _ _).alloc (Nat.le_refl _) _
  have HQ0 := Lib.hid (heap_alloc_new w (.cells #[.slice sA sn sc, .int .i64 kind, .int .i64 size, .int .i64 etag, .slice dA dn dc, .slice lA ls.length lc, .int .i64 now, .int .i64 fk, .slice nA nn nc] 39 (0, 0)))
  have HB0 := Lib.hid hba
  have HFx := Lib.hid (fixed18_any _ (hE.below hba))
  clear hEE hpk hl hlk hok hE hba
  go_enter Tryz.func6, Tryz.ntmps6
  go_wp2_with fail
  refine HFx.out.mono ?_
  rintro e w1 ⟨rfl, hb1⟩
  have HB1 := Lib.hid (HB0.out.trans (hb1.mono HB0.out.size))
  have HQ1 := Lib.hid ((hb1.block _ (xlt HQ0.out)).trans HQ0.out)
  have HFr := Lib.hid (far_any sA sn sc kind size etag dA dn dc lA lc ls now fk nA nn nc w1 (Tab.below HL.out HB1.out (Nat.le_refl _) fun cs l ⟨A, c, h1, h2⟩ => ⟨A, c, h1, h2.below HB1.out (Nat.le_refl _)⟩))
  obtain ⟨q, hq⟩ : ∃ q, q = w.heap.size := ⟨_, rfl⟩
  rw [← hq] at HQ1 ⊢
  clear hq
  have x0 := xat HQ1.out 0
  have x1 := xat HQ1.out 1
  have x2 := xat HQ1.out 2
  have x3 := xat HQ1.out 3
  have x4 := xat HQ1.out 4
  have x5 := xat HQ1.out 5
  have x6 := xat HQ1.out 6
  have x7 := xat HQ1.out 7
  have x8 := xat HQ1.out 8
  simp only [List.getElem?_toArray, List.getElem?_cons_zero, List.getElem?_cons_succ] at x0 x1 x2 x3 x4 x5 x6 x7 x8
  clear hb1 HQ0 HB0 HFx
  go_wp2_with fail
  refine HFr.out.mono ?_
  rintro e w2 ⟨rfl, hb2⟩
  have HB2 := Lib.hid (HB1.out.trans (hb2.mono HB1.out.size))
  have HQ2 := Lib.hid ((hb2.block _ (xlt HQ1.out)).trans HQ1.out)
  obtain ⟨fb, hfb⟩ : ∃ fb, fb = farB size etag ls now := ⟨_, rfl⟩
  rw [← hfb]
  have HFb := Lib.hid hfb
  clear hb2 hfb x0 x1 x2 x3 x4 x5 x6 x7 x8 HQ1 HB1 HFr
  cases fb
  · have hnf : ∀ l ∈ ls, -2305843009213693952 ≤ now ∧ l.upto ≤ 2305843009213693952 := fun l hl => by
      have h := HFb.out
      unfold farB at h
      have h1 := (Bool.or_eq_false_iff.1 h.symm).1
      rw [List.any_eq_false] at h1
      have h2 := h1 l hl
      unfold farL at h2
      rw [Bool.or_eq_true, decide_eq_true_eq, decide_eq_true_eq, not_or] at h2
      omega
    have HNf := Lib.hid hnf
    clear hnf HFb
    go_wp2_with fail
    go_loopg [5, 6] ls.length (fun gk v5 v6 wr => ∃ (i n0 : Nat), i + gk = ls.length ∧ v6 = .int .i64 i ∧ v5 = .int .i64 n0 ∧ Hid (n0 = countC now p (ls.take i)) ∧ n0 ≤ i ∧ Hid (Below w.heap.size w wr ∧ wr.heap[q]? = some (.cells #[.slice sA sn sc, .int .i64 kind, .int .i64 size, .int .i64 etag, .slice dA dn dc, .slice lA ls.length lc, .int .i64 now, .int .i64 fk, .slice nA nn nc] 39 (0, 0))))
    case atStart => exact ⟨0, 0, by omega, rfl, rfl, Lib.hid rfl, Nat.le_refl _, Lib.hid ⟨HB2.out, HQ2.out⟩⟩
    case round =>
      obtain ⟨i, n0, hig, rfl, rfl, HNc, hni, HW⟩ := hrel
      have y5 := xat HW.out.2 5
      have y6 := xat HW.out.2 6
      simp only [List.getElem?_toArray, List.getElem?_cons_zero, List.getElem?_cons_succ] at y5 y6
      rcases hd : ls.drop i with _ | ⟨l, rest⟩
      · have hi2 : i = ls.length := by have := drop_nil hd; omega
        subst hi2
        have k1 : ¬ ((ls.length : Int) < ls.length) := by omega
        have HDi := Lib.hid (disc_any lA lc ls pA pc p now wr (Tab.below HL.out HW.out.1 (Nat.le_refl _) fun cs l ⟨A, c, h1, h2⟩ => ⟨A, c, h1, h2.below HW.out.1 (Nat.le_refl _)⟩) (HPs.out.below HW.out.1 (Nat.le_refl _)) (fun l hl => ⟨(HOk.out l hl).1, (HOk.out l hl).2, (HNf.out l hl).2⟩) (fun hne => by
          rcases ls with _ | ⟨l, r⟩
          · exact absurd rfl hne
          · exact (HNf.out l (List.mem_cons_self ..)).1) (by omega) (HE.out.below HW.out.1))
        go_wp2_with fail
        refine HDi.out.mono ?_
        rintro e w7 ⟨f0, f1, f2, f3, f4, ks, rfl, hks, hn, hb7, -⟩
        have hkn : ks.length = n0 := by rw [hks, HNc.out, List.take_length]
        obtain ⟨av, kv, hcs, ha, hk⟩ := hn.parts
        obtain ⟨kA, kc, rfl⟩ := tab_shape hk.1
        obtain ⟨aA, ac, rfl⟩ := tab_shape ha.1
        simp only [List.cons.injEq, and_true] at hcs
        obtain ⟨g0, g1, g2, g3, g4⟩ := hcs
        replace g0 : f0 = .string ⟨#[]⟩ := g0
        replace g1 : f1 = .string ⟨#[68, 65, 86, 58]⟩ := g1
        replace g2 : f2 = .string ⟨#[108, 111, 99, 107, 100, 105, 115, 99, 111, 118, 101, 114, 121]⟩ := g2
        replace g3 : f3 = .slice aA 0 ac := g3
        replace g4 : f4 = .slice kA ks.length kc := g4
        rw [hkn] at g4
        subst g0 g1 g2 g3 g4
        have HF := Lib.hid (show Below w.heap.size w (w7.alloc (.cells #[.string ⟨#[]⟩, .string ⟨#[68, 65, 86, 58]⟩, .string ⟨#[108, 111, 99, 107, 100, 105, 115, 99, 111, 118, 101, 114, 121]⟩, .slice aA 0 ac, .slice kA n0 kc] 46 (0, 0))) from (HW.out.1.trans (hb7.mono HW.out.1.size)).alloc (Nat.le_trans HW.out.1.size hb7.size) _)
        clear hks hn hb7 ha hk y5 y6 hd HDi hkn
        go_wp2
        rw [HEE.out]
        exact ⟨rfl, HF.out⟩
      · obtain ⟨hlt, hx, hr⟩ := drop_consA hd
        obtain ⟨bl, o, zA, zc, rfl, hbl, c0, c1, c2, c3, c4, c5, hst⟩ := HLk.out i l hx
        have hbs := HW.out.1.block bl hbl
        have e0 : wr.cell? ⟨bl, o + i * 6, none⟩ = some (.string ⟨l.token.toArray⟩) := by rw [cell_eq hbs]; exact c0
        have e1 : wr.cell? ⟨bl, o + i * 6 + 1, none⟩ = some (.slice zA l.path.length zc) := by rw [cell_eq hbs]; exact c1
        have e2 : wr.cell? ⟨bl, o + i * 6 + 2, none⟩ = some (.bool l.deep) := by rw [cell_eq hbs]; exact c2
        have e3 : wr.cell? ⟨bl, o + i * 6 + 3, none⟩ = some (.bool l.excl) := by rw [cell_eq hbs]; exact c3
        have e4 : wr.cell? ⟨bl, o + i * 6 + 4, none⟩ = some (.string ⟨l.owner.toArray⟩) := by rw [cell_eq hbs]; exact c4
        have e5 : wr.cell? ⟨bl, o + i * 6 + 5, none⟩ = some (.int .i64 l.upto) := by rw [cell_eq hbs]; exact c5
        have k1 : (i : Int) < ls.length := by omega
        have k2 : (0 : Int) ≤ i := by omega
        have k7 : IntKind.i64.wrap ((n0 : Int) + 1) = (n0 : Int) + 1 := IntWalk.i64_in _ (by omega)
        have HCn := Lib.hid (countC_at (now := now) (p := p) hx)
        have hba : Below wr.heap.size wr (wr.alloc (.cells #[.string ⟨l.token.toArray⟩, .slice zA l.path.length zc, .bool l.deep, .bool l.excl, .string ⟨l.owner.toArray⟩, .int .i64 l.upto] 48 (0, 0))) := (Below.refl _ _).alloc (Nat.le_refl _) _
        have hqa := heap_alloc_new wr (.cells #[.string ⟨l.token.toArray⟩, .slice zA l.path.length zc, .bool l.deep, .bool l.excl, .string ⟨l.owner.toArray⟩, .int .i64 l.upto] 48 (0, 0))
        have HW1 := Lib.hid (show Below w.heap.size w (wr.alloc (.cells #[.string ⟨l.token.toArray⟩, .slice zA l.path.length zc, .bool l.deep, .bool l.excl, .string ⟨l.owner.toArray⟩, .int .i64 l.upto] 48 (0, 0))) ∧ (wr.alloc (.cells #[.string ⟨l.token.toArray⟩, .slice zA l.path.length zc, .bool l.deep, .bool l.excl, .string ⟨l.owner.toArray⟩, .int .i64 l.upto] 48 (0, 0))).heap[q]? = some (.cells #[.slice sA sn sc, .int .i64 kind, .int .i64 size, .int .i64 etag, .slice dA dn dc, .slice (some ⟨bl, o, none⟩) ls.length lc, .int .i64 now, .int .i64 fk, .slice nA nn nc] 39 (0, 0)) from ⟨HW.out.1.trans (hba.mono HW.out.1.size), (hba.block _ (xlt HW.out.2)).trans HW.out.2⟩)
        have x1 := xat hqa 1
        have x2 := xat hqa 2
        have x5 := xat hqa 5
        have u6 := xat HW1.out.2 6
        simp only [List.getElem?_toArray, List.getElem?_cons_zero, List.getElem?_cons_succ] at x1 x2 x5 u6
        have HSp := Lib.hid (hst.below HW1.out.1 (Nat.le_refl _))
        have HPp := Lib.hid (HPs.out.below HW1.out.1 (Nat.le_refl _))
        have HQa := Lib.hid hqa
        clear c0 c1 c2 c3 c4 c5 hst hbs hd hr hx hba hqa
        have hs0 : decide ((l.path.length : Int) ≤ (p.length : Int)) = samB p l.path 0 := by rw [samB_zero]; exact decide_eq_decide.2 (by omega)
        have HS0 := Lib.hid hs0
        clear hs0
        go_upto_block 10 with (fail)
        clear e0 e1 e2 e3 e4 e5 y5 y6
        generalize wr.alloc (.cells #[.string ⟨l.token.toArray⟩, .slice zA l.path.length zc, .bool l.deep, .bool l.excl, .string ⟨l.owner.toArray⟩, .int .i64 l.upto] 48 (0, 0)) = W1 at *
        obtain ⟨q7, hq7⟩ : ∃ q7, q7 = wr.heap.size := ⟨_, rfl⟩
        rw [← hq7] at x1 x2 x5 HQa ⊢
        clear hq7 HW x1 x2 x5 u6
        generalize wr = Wo at *
        go_loopg [8, 9] l.path.length (fun gk8 v8 v9 w8 => ∃ k : Nat, k + gk8 = l.path.length ∧ v9 = .int .i64 k ∧ v8 = .bool (samB p l.path k) ∧ Hid (Below W1.heap.size W1 w8))
        case atStart => exact ⟨0, by omega, rfl, by rw [samB_zero], Lib.hid (Below.refl _ _)⟩
        case round =>
          obtain ⟨k, hkg, rfl, rfl, HBi⟩ := hrel
          have HW2 := Lib.hid (show Below w.heap.size w wr ∧ wr.heap[q]? = some (.cells #[.slice sA sn sc, .int .i64 kind, .int .i64 size, .int .i64 etag, .slice dA dn dc, .slice (some ⟨bl, o, none⟩) ls.length lc, .int .i64 now, .int .i64 fk, .slice nA nn nc] 39 (0, 0)) from ⟨HW1.out.1.trans (HBi.out.mono HW1.out.1.size), (HBi.out.block _ (xlt HW1.out.2)).trans HW1.out.2⟩)
          have hqb := (HBi.out.block _ (xlt HQa.out)).trans HQa.out
          have x1 := xat hqb 1
          have x2 := xat hqb 2
          have x5 := xat hqb 5
          have u6 := xat HW2.out.2 6
          simp only [List.getElem?_toArray, List.getElem?_cons_zero, List.getElem?_cons_succ] at x1 x2 x5 u6
          have HSp2 := Lib.hid (HSp.out.below HBi.out (Nat.le_refl _))
          have HPp2 := Lib.hid (HPp.out.below HBi.out (Nat.le_refl _))
          clear hqb
          obtain ⟨sb, hsb⟩ : ∃ sb, sb = samB p l.path k := ⟨_, rfl⟩
          rw [← hsb]
          have HSb := Lib.hid hsb
          clear hsb
          by_cases hk : k < l.path.length
          · have k3 : (k : Int) < l.path.length := by omega
            have k4 : (0 : Int) ≤ k := by omega
            cases sb
            · have HCv := Lib.hid (show (decide (now < l.upto) && coversL l p) = false by unfold coversL; rw [samB_false (by omega) HSb.out.symm, Bool.false_and, Bool.and_false])
              have HC2 := Lib.hid (show n0 = countC now p (ls.take (i + 1)) by rw [HCn.out, HNc.out, HCv.out]; rfl)
              go_wp2
              go_roundg (ls.length - (i + 1))
              case measure => omega
              case rel => exact ⟨i + 1, n0, by omega, by go_num, by go_num, HC2, by omega, HW2⟩
            · have hpl : l.path.length ≤ p.length := by
                have h := HSb.out
                unfold samB at h
                exact of_decide_eq_true (Bool.and_eq_true_iff.1 h.symm).1
              have k5 : (k : Int) < p.length := by omega
              have HPl := Lib.hid hpl
              have hlk := List.getElem?_eq_getElem hk
              have hkp : k < p.length := by omega
              have hpk := List.getElem?_eq_getElem hkp
              obtain ⟨a1, c1, hv1, -, -, hz1⟩ := HSp2.out
              injection hv1 with j1 j2 j3
              subst j1 j3
              obtain ⟨b1, o1, rfl, -, d1⟩ := hz1 k _ hlk
              obtain ⟨a2, c2, hv2, -, -, hz2⟩ := HPp2.out
              injection hv2 with j4 j5 j6
              subst j4 j6
              obtain ⟨b2, o2, rfl, -, d2⟩ := hz2 k _ hpk
              have HNx := Lib.hid (samB_next hlk hpk HSb.out.symm)
              generalize l.path[k] = px at *
              generalize p[k] = py at *
              clear hz1 hz2 hlk hpk hpl
              go_upto_region 12 with (fail)
              go_big_region
              all_goals
                go_wp2
                go_roundg (gk - 1)
                case measure => omega
                case rel => exact ⟨k + 1, by omega, by go_num, by rw [HNx.out], Lib.hid (below_draws HBi.out 1)⟩
          · have hke : k = l.path.length := by omega
            subst hke
            have k3 : ¬ ((l.path.length : Int) < l.path.length) := by omega
            have HSw := Lib.hid (show UriN.withinS p l.path = sb by rw [← samB_end]; exact HSb.out.symm)
            cases sb
            · have HCv := Lib.hid (show (decide (now < l.upto) && coversL l p) = false by unfold coversL; rw [HSw.out, Bool.false_and, Bool.and_false])
              have HC2 := Lib.hid (show n0 = countC now p (ls.take (i + 1)) by rw [HCn.out, HNc.out, HCv.out]; rfl)
              go_wp2
              go_roundg (ls.length - (i + 1))
              case measure => omega
              case rel => exact ⟨i + 1, n0, by omega, by go_num, by go_num, HC2, by omega, HW2⟩
            · obtain ⟨dp, hdp⟩ : ∃ dp, dp = l.deep := ⟨_, rfl⟩
              rw [← hdp] at x2
              have HDp := Lib.hid hdp
              clear hdp
              by_cases hgt : now < l.upto
              · cases dp
                · by_cases hel : l.path.length = p.length
                  · have k8 : (l.path.length : Int) = p.length := by omega
                    have HCv := Lib.hid (show (decide (now < l.upto) && coversL l p) = true by unfold coversL; rw [HSw.out, ← HDp.out, decide_eq_true hgt, decide_eq_true (show p.length = l.path.length from hel.symm)]; rfl)
                    have HC2 := Lib.hid (show n0 + 1 = countC now p (ls.take (i + 1)) by rw [HCn.out, HNc.out, HCv.out]; rfl)
                    go_wp2
                    go_roundg (ls.length - (i + 1))
                    case measure => omega
                    case rel => exact ⟨i + 1, n0 + 1, by omega, by go_num, by go_num, HC2, by omega, HW2⟩
                  · have k8 : ¬ (p.length : Int) = l.path.length := by omega
                    have k9 : ¬ p.length = l.path.length := fun e => hel e.symm
                    have HCv := Lib.hid (show (decide (now < l.upto) && coversL l p) = false by unfold coversL; rw [HSw.out, ← HDp.out, decide_eq_false (show ¬ p.length = l.path.length from fun e => hel e.symm)]; simp)
                    have HC2 := Lib.hid (show n0 = countC now p (ls.take (i + 1)) by rw [HCn.out, HNc.out, HCv.out]; rfl)
                    go_wp2
                    go_roundg (ls.length - (i + 1))
                    case measure => omega
                    case rel => exact ⟨i + 1, n0, by omega, by go_num, by go_num, HC2, by omega, HW2⟩
                · have HCv := Lib.hid (show (decide (now < l.upto) && coversL l p) = true by unfold coversL; rw [HSw.out, ← HDp.out, decide_eq_true hgt]; rfl)
                  have HC2 := Lib.hid (show n0 + 1 = countC now p (ls.take (i + 1)) by rw [HCn.out, HNc.out, HCv.out]; rfl)
                  go_wp2
                  go_roundg (ls.length - (i + 1))
                  case measure => omega
                  case rel => exact ⟨i + 1, n0 + 1, by omega, by go_num, by go_num, HC2, by omega, HW2⟩
              · have HCv := Lib.hid (show (decide (now < l.upto) && coversL l p) = false by rw [decide_eq_false hgt, Bool.false_and])
                cases dp
                · by_cases hel : l.path.length = p.length
                  · have k8 : (l.path.length : Int) = p.length := by omega
                    have HC2 := Lib.hid (show n0 = countC now p (ls.take (i + 1)) by rw [HCn.out, HNc.out, HCv.out]; rfl)
                    go_wp2
                    go_roundg (ls.length - (i + 1))
                    case measure => omega
                    case rel => exact ⟨i + 1, n0, by omega, by go_num, by go_num, HC2, by omega, HW2⟩
                  · have k8 : ¬ (p.length : Int) = l.path.length := by omega
                    have k9 : ¬ p.length = l.path.length := fun e => hel e.symm
                    have HC2 := Lib.hid (show n0 = countC now p (ls.take (i + 1)) by rw [HCn.out, HNc.out, HCv.out]; rfl)
                    go_wp2
                    go_roundg (ls.length - (i + 1))
                    case measure => omega
                    case rel => exact ⟨i + 1, n0, by omega, by go_num, by go_num, HC2, by omega, HW2⟩
                · skip
                  have HC2 := Lib.hid (show n0 = countC now p (ls.take (i + 1)) by rw [HCn.out, HNc.out, HCv.out]; rfl)
                  go_wp2
                  go_roundg (ls.length - (i + 1))
                  case measure => omega
                  case rel => exact ⟨i + 1, n0, by omega, by go_num, by go_num, HC2, by omega, HW2⟩
  · have HFx2 := Lib.hid (fixed18_any w2 (HE.out.below HB2.out))
    go_wp2_with fail
    refine HFx2.out.mono ?_
    rintro e w3 ⟨rfl, hb3⟩
    have HF := Lib.hid (HB2.out.trans (hb3.mono HB2.out.size))
    clear hb3
    go_wp2
    rw [HEE.out]
    exact ⟨rfl, HF.out⟩
end Go.Proofs.YtjkiehmjffgnlaaGreatDoor

import Derived.Test.YtjkiehmjffgnlaaGreatDoorXmlZ52
import Derived.OwnWalk
import Derived.Deep.RegionHeld3
import Derived.Test.YtjkiehmjffgnlaaGreatDoorXmlZ51
import Derived.IntWalk
namespace Go.Proofs.YtjkiehmjffgnlaaGreatDoor
set_option linter.unusedVariables false
set_option linter.unusedSimpArgs false
open Go.RowKit

set_option maxHeartbeats 32000000 in
set_option maxRecDepth 100000 in
set_option linter.unusedSimpArgs false in
theorem patch_any (dA : Option Addr) (dc : Nat) (dead : List NodeT) (lA : Option Addr) (lc : Nat) (l : List ChgT) (w : World) (hd : Tab 5 (NodeP anyB) w (.slice dA dead.length dc) dead) (hz : dA = none → dead.length = 0 ∧ dc = 0) (hl : Tab 6 (ChgR anyB) w (.slice lA l.length lc) l) (hds : dead.length ≤ 10000000) (hls : l.length ≤ 10000000) :
    Calls Tryz.prog 8 #[.slice dA dead.length dc, .slice lA l.length lc] w (PatchP dead l w) := by
  obtain ⟨E, hEE⟩ : ∃ E, E = PatchP dead l w := ⟨_, rfl⟩
  rw [← hEE]
  have HEE := Lib.hid hEE
  obtain ⟨-, hlc, hlm, hlk⟩ := chg_at hl
  unfold maxLen at hlm
  have HLk := Lib.hid hlk
  have HDt := Lib.hid hd
  have HZ := Lib.hid hz
  obtain ⟨hb3, hc0, hc1, hc2⟩ := three_allocL w (.cells #[.int .i64 200, .slice none 0 0] 43 (0, 0)) (.cells #[.int .i64 403, .slice none 0 0] 43 (0, 0)) (.cells #[.int .i64 424, .slice none 0 0] 43 (0, 0))
  have hdw : Tab 5 (NodeP (fun k => k < w.heap.size)) _ (.slice dA dead.length dc) dead := (TabP.move (R' := NodeP (fun k => k < w.heap.size)) (P := anyB) (Q := anyB) ⟨hd, fun _ _ _ => trivial⟩ (Moves.below hb3 fun _ _ _ => trivial) (fun cs x _ hx => hx.move ⟨hb3.size, fun k _ hk => ⟨hk, hb3.block k hk⟩⟩)).1
  have HCl := Lib.hid (clone_any (fun k => k < w.heap.size) dA dead.length dc dead _ rfl hdw hz (by omega))
  have H0 := Lib.hid hc0
  have H1 := Lib.hid hc1
  have H2 := Lib.hid hc2
  have HB3 := Lib.hid hb3
  have hs3 := xlt hc2
  clear hEE hd hz hl hlk hb3 hc0 hc1 hc2 hdw
  go_enter Tryz.func8, Tryz.ntmps8
  go_wp2_with fail
  refine HCl.out.mono ?_
  rintro e w4 ⟨v, d, rfl, hdm, hk, hlo, hb, -, -⟩
  have hb4 := HB3.out.trans (hb.mono HB3.out.size)
  have HI := PInv.start (dead := dead) (l := l) (B := w.heap.size) ((hb.block _ (xlt H0.out)).trans H0.out) ((hb.block _ (xlt H1.out)).trans H1.out) ((hb.block _ (xlt H2.out)).trans H2.out) (Nat.le_refl _) (Nat.lt_succ_self _) (Nat.lt_succ_self _) hs3 hk (fun p hp => (hlo p hp).move (Moves.same _ fun k hk _ => hk.1)) hdm hb4
  obtain ⟨P0, HI⟩ := HI
  have HI := Lib.hid HI
  clear hk hlo hdm hb hb4 hs3 HB3 H0 H1 H2 HCl
  obtain ⟨b2, hb2⟩ : ∃ b, b = w.heap.size + 1 + 1 := ⟨_, rfl⟩
  rw [← hb2] at HI ⊢
  clear hb2
  obtain ⟨b1, hb1⟩ : ∃ b, b = w.heap.size + 1 := ⟨_, rfl⟩
  rw [← hb1] at HI ⊢
  clear hb1
  obtain ⟨b0, hb0⟩ : ∃ b, PInv w.heap.size b b1 b2 dead l 0 P0 v d w w4 ∧ b = w.heap.size := ⟨_, HI.out, rfl⟩
  rw [← hb0.2]
  have HI := Lib.hid hb0.1
  clear hb0
  go_wp2_with fail
  go_loopg [10, 21] l.length (fun gk v10 v21 wr => ∃ (i : Nat) (P : Fin 3 → Prt) (d : List NodeD), i + gk = l.length ∧ v21 = .int .i64 i ∧ Hid (PInv w.heap.size b0 b1 b2 dead l i P v10 d w wr))
  case atStart => exact ⟨0, P0, d, by omega, rfl, HI⟩
  case round =>
    obtain ⟨i, P, d, hig, rfl, HP⟩ := hrel
    rcases hdr : l.drop i with _ | ⟨c, rest⟩
    · have hi2 : i = l.length := by have := drop_nil hdr; omega
      subst hi2
      clear hdr
      have m0 := HP.out.m0
      have m1 := HP.out.m1
      have m2 := HP.out.m2
      have mn := HP.out.mn
      rw [List.take_length] at m0 m1 m2 mn
      obtain ⟨A0, p0, hv0, hl0, hq0, -⟩ := (HP.out.st.row 0).slice
      obtain ⟨A1, p1, hv1, hl1, hq1, -⟩ := (HP.out.st.row 1).slice
      obtain ⟨A2, p2, hv2, hl2, hq2, -⟩ := (HP.out.st.row 2).slice
      obtain ⟨A, pc, hv, hl9, hq9, -⟩ := HP.out.st.now.slice
      subst hv
      unfold maxLen at hq0 hq1 hq2 hq9
      have k1 : ¬ ((l.length : Int) < l.length) := by omega
      have y := HP.out.st.cell 1
      rw [HP.out.e1.1, HP.out.e1.2, hv1] at y
      have y0 := xat y 0
      have y1 := xat y 1
      simp only [List.getElem?_toArray, List.getElem?_cons_zero, List.getElem?_cons_succ] at y0 y1
      have u := HP.out.st.cell 2
      rw [HP.out.e2.1, HP.out.e2.2, hv2] at u
      have HV0 := Lib.hid hv0
      have HV1 := Lib.hid hv1
      have HV2 := Lib.hid hv2
      have hln := HP.out.lnn
      rcases hbe : badP l with _ | ⟨bn, br⟩
      · have HM0 := Lib.hid m0
        have HMn := Lib.hid (show d.map (·.x) = nowP dead l by rw [mn]; exact nowL_eq l dead (bad_none l hbe))
        have HBe := Lib.hid hbe
        have k3 : ¬ (0 : Int) < ((P 1).d.length : Int) := by
          have h := congrArg List.length m1
          rw [hbe, List.length_map] at h
          simp only [List.length_nil] at h
          omega
        have HSo := Lib.hid (sortK_any w.heap.size (.slice A d.length pc) d wr HP.out.st.now (by omega))
        clear m0 m1 m2 mn hbe u hv0 hv1 hv2 y
        go_wp2_with fail
        refine HSo.out.mono ?_
        rintro e w5 ⟨rfl, d', ⟨hsr, hst⟩, hr5, hg5⟩
        have hS5 := HP.out.st.next hr5 hg5 (fun p hp => (HP.out.st.low p (stab_mem hst hp)).move ⟨hg5.size, fun k hk hlt => ⟨hk, hg5.block k hlt (fun e => by have := (HP.out.st.now.lt k e.symm).1; omega)⟩⟩)
        have z := hS5.cell 0
        rw [HP.out.e0.1, HP.out.e0.2, HV0.out] at z
        have z0 := xat z 0
        have z1 := xat z 1
        simp only [List.getElem?_toArray, List.getElem?_cons_zero, List.getElem?_cons_succ] at z0 z1
        have HS5 := Lib.hid hS5
        have HSt := Lib.hid (show Srt leD d' ∧ Stab leD d d' from ⟨hsr, hst⟩)
        have hal : Below w5.heap.size w5 (w5.alloc (.cells #[.int .i64 200, .slice A0 (P 0).d.length p0] 43 (0, 0))) := (Below.refl _ _).alloc (Nat.le_refl _) _
        have HAl := Lib.hid hal
        have HFu := Lib.hid (full_any w.heap.size w5.heap.size 1 [⟨200, A0, (P 0).d.length, p0⟩] 1 _ rfl (prow_lit1 (heap_alloc_new w5 (.cells #[.int .i64 200, .slice A0 (P 0).d.length p0] 43 (0, 0))) hS5.size) (by decide))
        clear z hS5 hsr hst hal y0 y1 HSo hr5 hg5
        go_wp2_with fail
        refine HFu.out.mono ?_
        rintro e w7 ⟨rfl, hp7, hg7⟩
        have hb7 : Below w5.heap.size w5 w7 := HAl.out.trans (hg7.low (fun k e => by injection e with e; omega) HAl.out.size)
        have hS7 := HS5.out.under hb7
        have hl : (d'.map (·.x)).length = d.length := by rw [List.length_map]; exact HSt.out.2.1
        have HF := Lib.hid (show PatchP dead l w (.returned (.tuple #[.slice A d.length pc, .slice (some ⟨w5.heap.size, 0, none⟩) (fullD [⟨200, A0, (P 0).d.length, p0⟩]).length 1, .bool true])) w7 from
          ⟨A, pc, d'.map (·.x), _, fullP [⟨200, doneP l⟩], true, by rw [hl], by rw [hl]; exact hS7.now.nodes hS7.low.hang, (fun e => by
            rcases hS7.now.form with ⟨h1, h2⟩ | ⟨g, cap, h1, -⟩
            · rw [h2]; injection h1 with _ _ h3; exact ⟨rfl, h3⟩
            · injection h1 with h1; rw [e] at h1; cases h1), by
            rw [← HM0.out]
            exact parts_full (Z := [(⟨200, A0, (P 0).d.length, p0⟩, ⟨200, (P 0).d.map (·.x)⟩)]) hp7 (fun z hz => by
              rw [List.mem_singleton.1 hz]
              exact ⟨rfl, (hS7.part 0 HV0.out).2.1, (hS7.part 0 HV0.out).2.2⟩), hS7.base, (fun _ => ⟨rfl, srt_map HSt.out.1, by rw [← HMn.out]; exact stab_map HSt.out.2, rfl⟩), fun h => absurd HBe.out h⟩)
        clear hp7 hg7 hb7 hS7 hl z0 z1
        go_wp2
        go_ret3
        rw [HEE.out]
        exact HF.out
      · have k3 : (0 : Int) < ((P 1).d.length : Int) := by
          have h := congrArg List.length m1
          rw [hbe, List.length_map] at h
          simp only [List.length_cons] at h
          omega
        have u0 := xat u 0
        have u1 := xat u 1
        simp only [List.getElem?_toArray, List.getElem?_cons_zero, List.getElem?_cons_succ] at u0 u1
        have hyl := xlt y
        have hul := xlt u
        have HBe := Lib.hid (show badP l ≠ [] from by rw [hbe]; exact List.cons_ne_nil _ _)
        have hS0 : wr.drew.cell? ⟨b1, 0, none⟩ = some (.int .i64 403) ∧ wr.drew.cell? ⟨b1, 1, none⟩ = some (.slice A1 (P 1).d.length p1) ∧ wr.drew.cell? ⟨b2, 0, none⟩ = some (.int .i64 424) ∧ wr.drew.cell? ⟨b2, 1, none⟩ = some (.slice A2 (P 2).d.length p2) := ⟨y0, y1, u0, u1⟩
        have Hk := Lib.hid (fun (wb : World) (h : Below wr.heap.size wr wb) => (show wb.cell? ⟨b1, 0, none⟩ = some (.int .i64 403) ∧ wb.cell? ⟨b1, 1, none⟩ = some (.slice A1 (P 1).d.length p1) ∧ wb.cell? ⟨b2, 0, none⟩ = some (.int .i64 424) ∧ wb.cell? ⟨b2, 1, none⟩ = some (.slice A2 (P 2).d.length p2) from ⟨(h.cell (p := ⟨b1, 0, none⟩) hyl).trans y0, (h.cell (p := ⟨b1, 1, none⟩) hyl).trans y1, (h.cell (p := ⟨b2, 0, none⟩) hul).trans u0, (h.cell (p := ⟨b2, 1, none⟩) hul).trans u1⟩))
        have hbw := HP.out.st.base
        have hd1 : Below wr.heap.size wr wr.drew := below_draws (Below.refl _ _) 1
        have hd2 : Below wr.heap.size wr (wr.alloc (.cells #[.int .i64 403, .slice A1 (P 1).d.length p1, .int .i64 424, .slice A2 (P 2).d.length p2] 43 (0, 0))).drew := below_draws ((Below.refl _ _).alloc (Nat.le_refl _) _) 1
        have hsA := Hk.out _ hd2
        have HTw := Lib.hid (fun (W : World) (h : Below wr.heap.size wr W) => (show Tab 5 (NodeP (fun k => k < w.heap.size)) W (.slice dA dead.length dc) dead from
          (TabP.move (R' := NodeP (fun k => k < w.heap.size)) (P := anyB) (Q := anyB) ⟨HDt.out, fun _ _ _ => trivial⟩ (Moves.below (hbw.trans (h.mono hbw.size)) fun _ _ _ => trivial) (fun cs x _ hx => hx.move ⟨(hbw.trans (h.mono hbw.size)).size, fun k _ hk => ⟨hk, (hbw.trans (h.mono hbw.size)).block k hk⟩⟩)).1))
        have HCl2 := Lib.hid (fun (W : World) (h : Below wr.heap.size wr W) => clone_any (fun k => k < w.heap.size) dA dead.length dc dead W rfl (HTw.out W h) HZ.out (by omega))
        have HFu2 := Lib.hid (fun (W : World) (g : Nat) (h : W.heap[g]? = some (.cells #[.int .i64 403, .slice A1 (P 1).d.length p1, .int .i64 424, .slice A2 (P 2).d.length p2] 43 (0, 0))) (hB : w.heap.size ≤ g) => full_any w.heap.size g 2 [⟨403, A1, (P 1).d.length, p1⟩, ⟨424, A2, (P 2).d.length, p2⟩] 2 W rfl (prow_lit2 h hB) (by decide))
        have HcA := Lib.hid (fun (w7 : World) (h : Below (wr.alloc (.cells #[.int .i64 403, .slice A1 (P 1).d.length p1, .int .i64 424, .slice A2 (P 2).d.length p2] 43 (0, 0))).drew.heap.size (wr.alloc (.cells #[.int .i64 403, .slice A1 (P 1).d.length p1, .int .i64 424, .slice A2 (P 2).d.length p2] 43 (0, 0))).drew w7) => (show Below wr.heap.size wr w7 ∧ w7.heap[wr.heap.size]? = some (.cells #[.int .i64 403, .slice A1 (P 1).d.length p1, .int .i64 424, .slice A2 (P 2).d.length p2] 43 (0, 0)) from
          ⟨hd2.trans (h.mono hd2.size), (h.block _ (xlt (heap_alloc_new wr (.cells #[.int .i64 403, .slice A1 (P 1).d.length p1, .int .i64 424, .slice A2 (P 2).d.length p2] 43 (0, 0))))).trans (heap_alloc_new wr (.cells #[.int .i64 403, .slice A1 (P 1).d.length p1, .int .i64 424, .slice A2 (P 2).d.length p2] 43 (0, 0)))⟩))
        have HcB := Lib.hid (fun (w7 : World) (h : Below wr.drew.heap.size wr.drew w7) => (show Below wr.heap.size wr w7 from hd1.trans h))
        have HEndA := Lib.hid (fun (w7 w9 : World) (v7 : Value) (d7 : List NodeD) (hk7 : KRow (wr.alloc (.cells #[.int .i64 403, .slice A1 (P 1).d.length p1, .int .i64 424, .slice A2 (P 2).d.length p2] 43 (0, 0))).drew.heap.size v7 d7 w7) (hd7 : d7.map (·.x) = dead) (hl7 : ∀ p ∈ d7, NodeP (fun k => k < w.heap.size ∧ k < (wr.alloc (.cells #[.int .i64 403, .slice A1 (P 1).d.length p1, .int .i64 424, .slice A2 (P 2).d.length p2] 43 (0, 0))).drew.heap.size) w7 p.cells p.x) (hw7 : Below wr.heap.size wr w7) (hp9 : PRow w.heap.size wr.heap.size 2 (fullD [⟨403, A1, (P 1).d.length, p1⟩, ⟨424, A2, (P 2).d.length, p2⟩]) w9) (hg9 : RGr (some wr.heap.size) (some wr.heap.size) w7 w9) =>
          bad_end HP.out HBe.out HV1.out HV2.out hk7 hd7 hl7 hw7 (Below.refl _ _) (fun e => by have := (hk7.lt _ e).1; have h2 : (wr.alloc (.cells #[.int .i64 403, .slice A1 (P 1).d.length p1, .int .i64 424, .slice A2 (P 2).d.length p2] 43 (0, 0))).drew.heap.size = wr.heap.size + 1 := World.size_alloc ..; omega) (Nat.le_refl _) hg9 hp9)
        have HEndB := Lib.hid (fun (w7 w9 : World) (v7 : Value) (d7 : List NodeD) (hk7 : KRow wr.drew.heap.size v7 d7 w7) (hd7 : d7.map (·.x) = dead) (hl7 : ∀ p ∈ d7, NodeP (fun k => k < w.heap.size ∧ k < wr.drew.heap.size) w7 p.cells p.x) (hw7 : Below wr.heap.size wr w7) (hp9 : PRow w.heap.size w7.heap.size 2 (fullD [⟨403, A1, (P 1).d.length, p1⟩, ⟨424, A2, (P 2).d.length, p2⟩]) w9) (hg9 : RGr (some w7.heap.size) (some w7.heap.size) (w7.alloc (.cells #[.int .i64 403, .slice A1 (P 1).d.length p1, .int .i64 424, .slice A2 (P 2).d.length p2] 43 (0, 0))) w9) =>
          bad_end HP.out HBe.out HV1.out HV2.out hk7 hd7 hl7 hw7 ((Below.refl w7.heap.size w7).alloc (Nat.le_refl _) _) (fun e => by have := (hk7.lt _ e).2; omega) hw7.size hg9 hp9)
        have HLo := Lib.hid (fun (W w9 : World) (g : Nat) (h : Below wr.heap.size wr W) (hg : wr.heap.size ≤ g) (hr : RGr (some g) (some g) W w9) => (show w9.cell? ⟨b1, 0, none⟩ = some (.int .i64 403) ∧ w9.cell? ⟨b1, 1, none⟩ = some (.slice A1 (P 1).d.length p1) ∧ w9.cell? ⟨b2, 0, none⟩ = some (.int .i64 424) ∧ w9.cell? ⟨b2, 1, none⟩ = some (.slice A2 (P 2).d.length p2) from Hk.out w9 (h.trans (hr.low (fun k e => by injection e with e; omega) h.size))))
        have HAl := Lib.hid (fun (w7 : World) (h : Below wr.heap.size wr w7) => (show Below wr.heap.size wr (w7.alloc (.cells #[.int .i64 403, .slice A1 (P 1).d.length p1, .int .i64 424, .slice A2 (P 2).d.length p2] 43 (0, 0))) ∧ (w7.alloc (.cells #[.int .i64 403, .slice A1 (P 1).d.length p1, .int .i64 424, .slice A2 (P 2).d.length p2] 43 (0, 0))).heap[w7.heap.size]? = some (.cells #[.int .i64 403, .slice A1 (P 1).d.length p1, .int .i64 424, .slice A2 (P 2).d.length p2] 43 (0, 0)) from ⟨h.alloc h.size _, heap_alloc_new w7 _⟩))
        have hsw : w.heap.size ≤ wr.heap.size := hbw.size
        clear m0 m1 m2 mn hbe hv0 hv1 hv2 y u hyl hul HDt HTw HLk
        go_upto_region 16 with (fail)
        clear y0 y1 u0 u1
        go_region_held3 (fun w' => w'.cell? ⟨b1, 0, none⟩ = some (.int .i64 403) ∧ w'.cell? ⟨b1, 1, none⟩ = some (.slice A1 (P 1).d.length p1) ∧ w'.cell? ⟨b2, 0, none⟩ = some (.int .i64 424) ∧ w'.cell? ⟨b2, 1, none⟩ = some (.slice A2 (P 2).d.length p2))
          (first | with_reducible exact hS0 | with_reducible exact hs9 | with_reducible exact hs8 | with_reducible exact hs7 | with_reducible exact hsA)
          (first
            | (have _h := hgA; go_at_call 21; refine (HFu2.out w7 wr.heap.size hgA hsw).mono ?_; rintro e w9 ⟨rfl, hp9, hg9⟩; have hs9 := HLo.out w7 w9 wr.heap.size hw7 (Nat.le_refl _) hg9; have HF := Lib.hid (HEndA.out w7 w9 v7 d7 hk7 hd7 hl7 hw7 hp9 hg9))
            | (have _h := hgB; go_at_call 21; refine (HFu2.out _ w7.heap.size (HAl.out w7 hw7).2 (Nat.le_trans hsw hw7.size)).mono ?_; rintro e w9 ⟨rfl, hp9, hg9⟩; have hs9 := HLo.out _ w9 w7.heap.size (HAl.out w7 hw7).1 hw7.size hg9; have HF := Lib.hid (HEndB.out w7 w9 v7 d7 hk7 hd7 hl7 hw7 hp9 hg9))
            | (go_at_call 16; refine (HCl2.out _ hd2).mono ?_; rintro e w7 ⟨v7, d7, rfl, hd7, hk7, hl7, hb7, -, -⟩; obtain ⟨hw7, hgA⟩ := HcA.out w7 hb7; have hs7 := Hk.out w7 hw7)
            | (go_at_call 16; refine (HCl2.out _ hd1).mono ?_; rintro e w7 ⟨v7, d7, rfl, hd7, hk7, hl7, hb7, -, -⟩; have hw7 := HcB.out w7 hb7; have hgB := hw7; have hs7 := Hk.out w7 hw7; have hs8 := Hk.out _ (HAl.out w7 hw7).1))
        all_goals
          clear hs7 hs9 hp9 hg9
          go_wp2
          go_ret3
          rw [HEE.out]
          exact HF.out
    · obtain ⟨hlt, hx, hr⟩ := drop_consA hdr
      obtain ⟨bl, o, aA, ac, kA, kc, rfl, hbl, c0, c1, c2, c3, c4, c5, hnd⟩ := HLk.out i c hx
      have HX := Lib.hid hx
      have hbs := HP.out.st.base.block bl hbl
      have e0 : wr.cell? ⟨bl, o + i * 6, none⟩ = some (.bool c.remove) := by rw [cell_eq hbs]; exact c0
      have e1 : wr.cell? ⟨bl, o + i * 6 + 1, none⟩ = some (.string ⟨c.value.text.toArray⟩) := by rw [cell_eq hbs]; exact c1
      have e2 : wr.cell? ⟨bl, o + i * 6 + 2, none⟩ = some (.string ⟨c.value.space.toArray⟩) := by rw [cell_eq hbs]; exact c2
      have e3 : wr.cell? ⟨bl, o + i * 6 + 3, none⟩ = some (.string ⟨c.value.name.toArray⟩) := by rw [cell_eq hbs]; exact c3
      have e4 : wr.cell? ⟨bl, o + i * 6 + 4, none⟩ = some (.slice aA c.value.attrs.length ac) := by rw [cell_eq hbs]; exact c4
      have e5 : wr.cell? ⟨bl, o + i * 6 + 5, none⟩ = some (.slice kA c.value.kids.length kc) := by rw [cell_eq hbs]; exact c5
      have k1 : (i : Int) < l.length := by omega
      have k2 : (0 : Int) ≤ i := by omega
      have HNd := Lib.hid (show NodeP (fun k => k < w.heap.size) w [.string ⟨c.value.text.toArray⟩, .string ⟨c.value.space.toArray⟩, .string ⟨c.value.name.toArray⟩, .slice aA c.value.attrs.length ac, .slice kA c.value.kids.length kc] c.value from hnd.move (Moves.same w fun _ _ hk => hk))
      have HNm := Lib.hid (fun w => name_any c.value.text c.value.space c.value.name (.slice aA c.value.attrs.length ac) (.slice kA c.value.kids.length kc) w)
      clear c0 c1 c2 c3 c4 c5 hnd hdr hr hx hbs
      go_wp2_with fail
      refine (HNm.out _).mono ?_
      rintro e w5 ⟨rfl, q5, os5, he5⟩
      have hbA : Below wr.heap.size wr (wr.alloc (.cells #[.bool c.remove, .string ⟨c.value.text.toArray⟩, .string ⟨c.value.space.toArray⟩, .string ⟨c.value.name.toArray⟩, .slice aA c.value.attrs.length ac, .slice kA c.value.kids.length kc] 54 (0, 0))) := (Below.refl _ _).alloc (Nat.le_refl _) _
      have hqA := heap_alloc_new wr (.cells #[.bool c.remove, .string ⟨c.value.text.toArray⟩, .string ⟨c.value.space.toArray⟩, .string ⟨c.value.name.toArray⟩, .slice aA c.value.attrs.length ac, .slice kA c.value.kids.length kc] 54 (0, 0))
      have hb5 : Below (wr.alloc (.cells #[.bool c.remove, .string ⟨c.value.text.toArray⟩, .string ⟨c.value.space.toArray⟩, .string ⟨c.value.name.toArray⟩, .slice aA c.value.attrs.length ac, .slice kA c.value.kids.length kc] 54 (0, 0))).heap.size (wr.alloc (.cells #[.bool c.remove, .string ⟨c.value.text.toArray⟩, .string ⟨c.value.space.toArray⟩, .string ⟨c.value.name.toArray⟩, .slice aA c.value.attrs.length ac, .slice kA c.value.kids.length kc] 54 (0, 0))) w5 := he5 ▸ below_grown _ q5 os5
      have hbk : Below w5.heap.size w5 (w5.alloc (.cells #[.string ⟨c.value.space.toArray⟩, .string ⟨c.value.name.toArray⟩] 52 (0, 0))) := (Below.refl _ _).alloc (Nat.le_refl _) _
      have hqk := heap_alloc_new w5 (.cells #[.string ⟨c.value.space.toArray⟩, .string ⟨c.value.name.toArray⟩] 52 (0, 0))
      have hwA5 : wr.heap.size ≤ w5.heap.size := Nat.le_trans hbA.size hb5.size
      have hq5 := (hb5.block _ (xlt hqA)).trans hqA
      have HKq := Lib.hid (PSt.fresh HP.out.st (Nat.le_refl _) ((hbk.block _ (xlt hq5)).trans hq5))
      have HKk := Lib.hid (PSt.fresh HP.out.st hwA5 hqk)
      have HS6 := Lib.hid (HP.out.st.under (hbA.trans ((hb5.mono hbA.size).trans (hbk.mono hwA5))))
      clear e0 e1 e2 e3 e4 e5 hbA hqA hb5 hbk hqk hwA5 hq5 he5 HNm
      obtain ⟨kb, hkb⟩ : ∃ kb, kb = w5.heap.size := ⟨_, rfl⟩
      rw [← hkb] at HKk
      go_wp2_with fail
      refine (HS6.out.call 0 HP.out.e0 (by have := HP.out.ln 0; omega) (keyN c.value)).mono ?_
      rw [← hkb]
      clear hkb
      rintro e w7 ⟨rfl, P7, hS7, hK7, hb7, hd7, hj7⟩
      have HS7 := Lib.hid hS7
      have HKq7 := Lib.hid (hK7 _ _ HKq.out)
      have HKk7 := Lib.hid (hK7 _ _ HKk.out)
      have y0 := xat HKk7.out.at_ 0
      have y1 := xat HKk7.out.at_ 1
      simp only [List.getElem?_toArray, List.getElem?_cons_zero, List.getElem?_cons_succ] at y0 y1
      clear hS7 hK7 HKq HKk HS6
      have HJ7 := Lib.hid (show (∀ j, (P7 j).b = (P j).b ∧ (P7 j).code = (P j).code) ∧ (P7 0).d = putD (P 0).d (keyN c.value) ∧ P7 1 = P 1 ∧ P7 2 = P 2 from ⟨hb7, hd7, hj7 1 (by decide), hj7 2 (by decide)⟩)
      clear hb7 hd7 hj7
      go_wp2_with fail
      refine (protected_any c.value.space c.value.name w7).mono ?_
      rintro e w8 ⟨rfl, q8, os8, he8⟩
      have hb8 : Below w7.heap.size w7 w8 := he8 ▸ below_grown _ q8 os8
      have HS8 := Lib.hid (HS7.out.under hb8)
      have HKq8 := Lib.hid (HKq7.out.under hb8)
      have HKk8 := Lib.hid (HKk7.out.under hb8)
      clear y0 y1 he8 hb8 HS7 HKq7 HKk7
      obtain ⟨pk, hpk⟩ : ∃ pk, pk = protK (c.value.space, c.value.name) := ⟨_, rfl⟩
      rw [← hpk]
      have HPk := Lib.hid (show protK (keyN c.value) = pk from hpk.symm)
      clear hpk
      have y0 := xat HKk8.out.at_ 0
      have y1 := xat HKk8.out.at_ 1
      simp only [List.getElem?_toArray, List.getElem?_cons_zero, List.getElem?_cons_succ] at y0 y1
      cases pk
      · go_wp2_with fail
        refine (HS8.out.call 2 ⟨(HJ7.out.1 2).1.trans HP.out.e2.1, (HJ7.out.1 2).2.trans HP.out.e2.2⟩ (by rw [HJ7.out.2.2.2]; have := HP.out.ln 2; omega) (keyN c.value)).mono ?_
        rintro e w9 ⟨rfl, P9, hS9, hK9, hb9, hd9, hj9⟩
        have HS9 := Lib.hid hS9
        have HKq9 := Lib.hid (hK9 _ _ HKq8.out)
        have HKk9 := Lib.hid (hK9 _ _ HKk8.out)
        have HJ9 := Lib.hid (show (∀ j, (P9 j).b = (P j).b ∧ (P9 j).code = (P j).code) ∧ (P9 0).d = putD (P 0).d (keyN c.value) ∧ (P9 1).d = (P 1).d ∧ (P9 2).d = putD (P 2).d (keyN c.value) from
          ⟨fun j => ⟨(hb9 j).1.trans (HJ7.out.1 j).1, (hb9 j).2.trans (HJ7.out.1 j).2⟩, by rw [hj9 0 (by decide)]; exact HJ7.out.2.1, by rw [hj9 1 (by decide), HJ7.out.2.2.1], by rw [hd9, HJ7.out.2.2.2]⟩)
        clear y0 y1 hS9 hK9 hb9 hd9 hj9 HS8 HKq8 HKk8 HJ7
        have HDe := Lib.hid (deleteK_any w.heap.size u10 d (keyN c.value) kb w9 HS9.out.now HS9.out.low.hang HKk9.out.at_ (fun e => HKk9.out.offn e.symm) (by have := HP.out.lnn; omega))
        go_wp2_with fail
        refine HDe.out.mono ?_
        rintro e w10 ⟨v', rfl, hr10, hg10, ho10⟩
        have HS10 := Lib.hid (HS9.out.next (d' := keepD (keyN c.value) d) hr10 (by rw [ho10]; exact hg10) (fun p hp => (HS9.out.low p (List.mem_filter.1 hp).1).move ⟨hg10.size, fun k hk hlt => ⟨hk, hg10.block k hlt (fun e => by have := (HS9.out.now.lt k e.symm).1; omega)⟩⟩))
        have HKq10 := Lib.hid (HKq9.out.next (v' := v') (by rw [ho10]; exact hg10))
        clear hr10 hg10 ho10 HDe HS9 HKq9 HKk9
        have x0 := xat HKq10.out.at_ 0
        have x1 := xat HKq10.out.at_ 1
        have x2 := xat HKq10.out.at_ 2
        have x3 := xat HKq10.out.at_ 3
        have x4 := xat HKq10.out.at_ 4
        have x5 := xat HKq10.out.at_ 5
        simp only [List.getElem?_toArray, List.getElem?_cons_zero, List.getElem?_cons_succ] at x0 x1 x2 x3 x4 x5
        obtain ⟨rm, hrm⟩ : ∃ rm, rm = c.remove := ⟨_, rfl⟩
        rw [← hrm] at x0
        have HRm := Lib.hid (show stepP (d.map (·.x)) c = (keepD (keyN c.value) d).map (·.x) ++ (if rm then [] else [c.value]) by unfold stepP; rw [keepD_map, hrm])
        clear hrm
        cases rm
        · have hal : Below w10.heap.size w10 (w10.alloc (.cells #[.string ⟨c.value.text.toArray⟩, .string ⟨c.value.space.toArray⟩, .string ⟨c.value.name.toArray⟩, .slice aA c.value.attrs.length ac, .slice kA c.value.kids.length kc] 46 (0, 0))) := (Below.refl _ _).alloc (Nat.le_refl _) _
          have hqn := heap_alloc_new w10 (.cells #[.string ⟨c.value.text.toArray⟩, .string ⟨c.value.space.toArray⟩, .string ⟨c.value.name.toArray⟩, .slice aA c.value.attrs.length ac, .slice kA c.value.kids.length kc] 46 (0, 0))
          have hS11 := HS10.out.under hal
          obtain ⟨v1, w11, run1, o1, bb1, g1, p1⟩ := run_appT elemN 22 hS11.now (some ⟨w10.heap.size, 0, none⟩) 1 1 (news := [(⟨c.value, aA, c.value.attrs.length, ac, kA, c.value.kids.length, kc⟩ : NodeD).cells]) rfl (Nat.le_refl _) (fun r hr => by rw [List.mem_singleton.1 hr]; rfl) (fun _ => ⟨_, 0, rfl, fun j r hr c u hu => by
            match j, hr with
            | 0, hr =>
              injection hr with hr
              subst hr
              rw [Nat.zero_mul, Nat.zero_add, Nat.zero_add]
              simp only [World.cell?, hqn]
              rw [← hu]
              simp [NodeD.cells]
            | j + 1, hr => simp at hr⟩) (fun r hr u hu => by rw [List.mem_singleton.1 hr] at hu; exact encD.one _ u hu) (by rw [List.length_map]; have := HP.out.lnn; have := keepD_len (keyN c.value) d; omega) hS11.size
          have hg11 : RGr v'.ownBlock v1.ownBlock (w10.alloc (.cells #[.string ⟨c.value.text.toArray⟩, .string ⟨c.value.space.toArray⟩, .string ⟨c.value.name.toArray⟩, .slice aA c.value.attrs.length ac, .slice kA c.value.kids.length kc] 46 (0, 0))) w11 := RGr.of g1 (p1.imp id fun e => ⟨_, e, Nat.le_refl _⟩)
          have hlow : Below w.heap.size (w10.alloc (.cells #[.string ⟨c.value.text.toArray⟩, .string ⟨c.value.space.toArray⟩, .string ⟨c.value.name.toArray⟩, .slice aA c.value.attrs.length ac, .slice kA c.value.kids.length kc] 46 (0, 0))) w11 := hg11.low (fun k e => (hS11.now.lt k e).1) hS11.size
          have hS12 := hS11.next (v' := v1) (d' := keepD (keyN c.value) d ++ [⟨c.value, aA, c.value.attrs.length, ac, kA, c.value.kids.length, kc⟩]) (by unfold KRow; rw [List.map_append]; exact o1) hg11 (fun p hp => by
            rcases List.mem_append.1 hp with hp | hp
            · exact hS11.low.below hlow p hp
            · rw [List.mem_singleton.1 hp]
              exact HNd.out.move ⟨((hS11.base).trans hlow).size, fun k hk _ => ⟨hk, ((hS11.base).trans hlow).block k hk⟩⟩)
          have HF := Lib.hid (HP.out.other HX.out HPk.out hS12 HJ9.out.1 HJ9.out.2.1 HJ9.out.2.2.1 HJ9.out.2.2.2 (by rw [HRm.out, List.map_append]; rfl) (by rw [List.length_append]; have := keepD_len (keyN c.value) d; simp only [List.length_cons, List.length_nil]; omega))
          have HR := Lib.hid run1
          clear hal hqn hS11 run1 o1 bb1 g1 p1 hg11 hlow hS12 HS10 HKq10 HRm HJ9
          go_wp2_with (at_builtin; refine wpList_app_run (by rfl) _ _ rfl rfl rfl HR.out ?_)
          go_roundg (gk - 1)
          case measure => omega
          case rel => exact ⟨i + 1, P9, _, by omega, by go_num, HF⟩
        · have HF := Lib.hid (HP.out.other HX.out HPk.out HS10.out HJ9.out.1 HJ9.out.2.1 HJ9.out.2.2.1 HJ9.out.2.2.2 (by rw [HRm.out]; simp) (by have := keepD_len (keyN c.value) d; omega))
          clear HS10 HKq10 HRm HJ9
          go_wp2
          go_roundg (gk - 1)
          case measure => omega
          case rel => exact ⟨i + 1, P9, _, by omega, by go_num, HF⟩
      · go_wp2_with fail
        refine (HS8.out.call 1 ⟨(HJ7.out.1 1).1.trans HP.out.e1.1, (HJ7.out.1 1).2.trans HP.out.e1.2⟩ (by rw [HJ7.out.2.2.1]; have := HP.out.ln 1; omega) (keyN c.value)).mono ?_
        rintro e w9 ⟨rfl, P9, hS9, hK9, hb9, hd9, hj9⟩
        have HF := Lib.hid (HP.out.bad HX.out HPk.out hS9 (fun j => ⟨(hb9 j).1.trans (HJ7.out.1 j).1, (hb9 j).2.trans (HJ7.out.1 j).2⟩) (by rw [hj9 0 (by decide)]; exact HJ7.out.2.1) (by rw [hd9, HJ7.out.2.2.1]) (by rw [hj9 2 (by decide), HJ7.out.2.2.2]))
        clear y0 y1 hS9 hK9 hb9 hd9 hj9 HS8 HKq8 HKk8 HJ7
        go_wp2
        go_roundg (gk - 1)
        case measure => omega
        case rel => exact ⟨i + 1, P9, d, by omega, by go_num, HF⟩
end Go.Proofs.YtjkiehmjffgnlaaGreatDoor
namespace Go.Proofs.YtjkiehmjffgnlaaGreatDoor
set_option linter.unusedVariables false
set_option linter.unusedSimpArgs false
open Go.RowKit

def fxA : NodeT := .mk [] [120] [97] [] []
def fxB : NodeT := .mk [] [120] [98] [] []
def fxL : List ChgT := [⟨false, fxB⟩, ⟨true, fxA⟩]
def fxE : NodeT := davN [103, 101, 116, 101, 116, 97, 103] [textN [34, 55, 34]]
theorem fx_seven : Lib.itoa 7 = [55] := by decide +kernel
theorem fx_idx (K : List NodeT) : idxFrom ([68, 65, 86, 58], [103, 101, 116, 101, 116, 97, 103]) (allN 1 3 7 K []) 0 = ((2 : Nat) : Int) ∧ (allN 1 3 7 K [])[2]? = some fxE := by
  refine ⟨rfl, ?_⟩
  have h : (allN 1 3 7 K [])[2]? = some (davN [103, 101, 116, 101, 116, 97, 103] [textN (34 :: (Lib.itoa 7 ++ [34]))]) := rfl
  rw [h, fx_seven]
  rfl
theorem fx_idx2 (K : List NodeT) : idxFrom ([120], [113]) (allN 1 3 7 K []) 0 = -1 := rfl
theorem fx_bad : badP fxL = [] := by decide +kernel
theorem fx_now : nowP [fxA] fxL = [fxB] := by rfl
theorem fx_done : fullP [⟨200, doneP fxL⟩] = [⟨200, [bareN ([120], [98]), bareN ([120], [97])]⟩] := by rfl
theorem stab_one {x : NodeT} {l : List NodeT} (h : Stab leN [x] l) : l = [x] := by
  obtain ⟨h1, h2⟩ := h
  rcases l with _ | ⟨y, _ | ⟨z, r⟩⟩
  · cases h1
  · have h3 := h2 x
    rw [show [x].filter (eqv leN x) = [x] from by rw [List.filter_cons, if_pos (eqv_self leN_ok x)]; rfl] at h3
    have hm : x ∈ [y].filter (eqv leN x) := by rw [h3]; exact List.mem_singleton.2 rfl
    have hm2 := List.mem_singleton.1 (List.mem_filter.1 hm).1
    rw [hm2]
  · simp at h1
set_option maxHeartbeats 32000000 in
set_option maxRecDepth 100000 in
set_option linter.unusedSimpArgs false in
theorem fixed18_any (w : World) (hE : MEnv w) : Calls Tryz.prog 7 #[] w (Ret (.bool true) w) := by
  obtain ⟨E, hEE⟩ : ∃ E, E = Ret (.bool true) w := ⟨_, rfl⟩
  rw [← hEE]
  have HEE := Lib.hid hEE
  obtain ⟨hb, h0, h1⟩ := two_alloc w (.cells #[.string ⟨#[97]⟩] 9 (0, 0)) (.cells #[.string ⟨#[68, 65, 86, 58]⟩, .string ⟨#[103, 101, 116, 101, 116, 97, 103]⟩, .string ⟨#[120]⟩, .string ⟨#[113]⟩] 52 (0, 0))
  have hT : SeenP (some ⟨w.heap.size, 0, none⟩) 1 [[97]] 3 7 none 0 [] none 0 [] 0 _ := ⟨⟨_, _, rfl, Nat.le_refl _, by show 1 ≤ maxLen; decide, fun j l hl => by
      match j, hl with
      | 0, hl => injection hl with hl; subst hl; exact ⟨_, _, rfl, xlt h0, xat h0 0⟩
      | j + 1, hl => simp at hl⟩, Tab.nil _ _ _, Tab.nil _ _ _, (fun l hl => by cases hl), (fun h => absurd rfl h), Nat.zero_le _, Nat.zero_le _, by decide, by decide, by decide, by decide, hE.below hb⟩
  have HTe := Lib.hid (tell_two (kind := 1) (w.heap.size + 1) 0 2 2 [68, 65, 86, 58] [103, 101, 116, 101, 116, 97, 103] [120] [113] fxE (xlt h1) (Nat.le_refl _) (by decide) (xat h1 0) (xat h1 1) (xat h1 2) (xat h1 3) fx_idx fx_idx2 hT)
  have HB := Lib.hid hb
  have HE := Lib.hid hE
  clear hEE hE hb h0 h1 hT
  go_enter Tryz.func7, Tryz.ntmps7
  go_wp2_with fail
  refine HTe.out.mono ?_
  rintro e w5 ⟨b5, rfl, hp5, hb5⟩
  have hlo := HB.out.trans (hb5.mono HB.out.size)
  obtain ⟨hc, g0, g1⟩ := two_alloc w5 (.cells #[.string ⟨#[]⟩, .string ⟨#[120]⟩, .string ⟨#[97]⟩, .slice none 0 0, .slice none 0 0] 46 (0, 0)) (.cells #[.bool false, .string ⟨#[]⟩, .string ⟨#[120]⟩, .string ⟨#[98]⟩, .slice none 0 0, .slice none 0 0, .bool true, .string ⟨#[]⟩, .string ⟨#[120]⟩, .string ⟨#[97]⟩, .slice none 0 0, .slice none 0 0] 54 (0, 0))
  have hna : ∀ (Q : Nat → Prop) (W : World), NodeP Q W [.string ⟨#[]⟩, .string ⟨#[120]⟩, .string ⟨#[97]⟩, .slice none 0 0, .slice none 0 0] fxA := fun Q W => NodeP.of (t := []) (s := [120]) (n := [97]) (ats := []) (ks := []) (TabP.nil _ _ _ _) (TabP.nil _ _ _ _)
  have hnb : ∀ (Q : Nat → Prop) (W : World), NodeP Q W [.string ⟨#[]⟩, .string ⟨#[120]⟩, .string ⟨#[98]⟩, .slice none 0 0, .slice none 0 0] fxB := fun Q W => NodeP.of (t := []) (s := [120]) (n := [98]) (ats := []) (ks := []) (TabP.nil _ _ _ _) (TabP.nil _ _ _ _)
  have HPa := Lib.hid (patch_any (some ⟨w5.heap.size, 0, none⟩) 1 [fxA] (some ⟨w5.heap.size + 1, 0, none⟩) 2 fxL _ (nodes_lit1 (r := [.string ⟨#[]⟩, .string ⟨#[120]⟩, .string ⟨#[97]⟩, .slice none 0 0, .slice none 0 0]) (P := anyB) g0 (hna _ _) trivial).1 (fun e => by cases e) (many_row (P := anyB) (n := 6) (rows := [[.bool false, .string ⟨#[]⟩, .string ⟨#[120]⟩, .string ⟨#[98]⟩, .slice none 0 0, .slice none 0 0], [.bool true, .string ⟨#[]⟩, .string ⟨#[120]⟩, .string ⟨#[97]⟩, .slice none 0 0, .slice none 0 0]]) (xs := fxL) g1 (fun r hr => by
      simp only [List.mem_cons, List.not_mem_nil, or_false] at hr
      rcases hr with rfl | rfl <;> rfl) rfl (show 2 ≤ maxLen by decide) (fun j r x hr hx => by
      match j, hr, hx with
      | 0, hr, hx => injection hr with hr; injection hx with hx; subst hr hx; exact ⟨_, rfl, hnb _ _⟩
      | 1, hr, hx => injection hr with hr; injection hx with hx; subst hr hx; exact ⟨_, rfl, hna _ _⟩
      | j + 2, hr, hx => simp at hr) trivial).1 (by decide) (by decide))
  have HP5 := Lib.hid (hp5.under hc)
  have HC := Lib.hid (hlo.trans (hc.mono hlo.size))
  clear hp5 hb5 hlo hc g0 g1 hna hnb HTe HB
  go_wp2_with fail
  refine HPa.out.mono ?_
  rintro e w7 ⟨A, c, res, pv, parts, ok, rfl, hN, -, hP, hb7, hok, -⟩
  obtain ⟨rfl, hsr, hst, hpa⟩ := hok fx_bad
  rw [fx_now] at hst
  have hres := stab_one hst
  subst hres
  rw [fx_done] at hpa
  subst hpa
  have hp7 := HP5.out.under hb7
  have HL7 := Lib.hid (HC.out.trans (hb7.mono HC.out.size))
  obtain ⟨qA, qc, hqv, -, -⟩ := (show ∃ A c, pv = .slice A 1 c ∧ True ∧ True from by obtain ⟨A, c, h, -⟩ := hP.1; exact ⟨A, c, h, trivial, trivial⟩)
  subst hqv
  obtain ⟨-, hq1, hq2, hqk⟩ := part_at hP.1
  obtain ⟨-, -, -, hpk⟩ := part_at hp7.1
  obtain ⟨p, o, xA, xc, hpe, hpl, u0, u1, hx⟩ := hpk 0 _ rfl
  obtain ⟨p', o', zA, zc, hpe', hpl', u2, u3, hz⟩ := hpk 1 _ rfl
  injection hpe with hpe
  injection hpe with e1 e2
  injection hpe' with hpe'
  injection hpe' with e3 e4
  subst e1 e2 e3 e4
  obtain ⟨-, hx1, hx2, hxk⟩ := kid_at hx
  obtain ⟨n0, m0, aA0, ac0, kA0, kc0, hxA, hn0l, v0, v1, v2, v3, v4, hat0, hkd0⟩ := hxk 0 _ rfl
  subst hxA
  obtain ⟨-, hk1, hk2, hkk⟩ := kid_at hkd0
  obtain ⟨n1, m1, aA1, ac1, kA1, kc1, hkA, hn1l, t0, t1, t2, t3, t4, -, -⟩ := hkk 0 _ rfl
  subst hkA
  obtain ⟨-, hd1, hd2, hdk⟩ := kid_at hN
  obtain ⟨n2, m2, aA2, ac2, kA2, kc2, hdA, hn2l, s0, s1, s2, s3, s4, -, -⟩ := hdk 0 _ rfl
  subst hdA
  obtain ⟨p3, o3, yA, yc, hqA, hp3l, r0, r1, -⟩ := hqk 0 _ rfl
  subst hqA
  have a0 : w7.cell? ⟨b5, 0, none⟩ = some (.int .i64 200) := u0
  have a1 : w7.cell? ⟨b5, 1, none⟩ = some (.slice (some ⟨n0, m0, none⟩) 1 xc) := u1
  have a2 : w7.cell? ⟨b5, 2, none⟩ = some (.int .i64 404) := u2
  have a4 : w7.cell? ⟨n0, m0 + 4, none⟩ = some (.slice (some ⟨n1, m1, none⟩) 1 kc0) := v4
  have a5 : w7.cell? ⟨n1, m1, none⟩ = some (.string ⟨#[34, 55, 34]⟩) := t0
  have a6 : w7.cell? ⟨n2, m2 + 2, none⟩ = some (.string ⟨#[98]⟩) := s2
  have a7 : w7.cell? ⟨p3, o3 + 1, none⟩ = some (.slice yA 2 yc) := r1
  have HPr := Lib.hid (protected_any [68, 65, 86, 58] [103, 101, 116, 101, 116, 97, 103] w7)
  rw [show protK ([68, 65, 86, 58], [103, 101, 116, 101, 116, 97, 103]) = true from by decide +kernel] at HPr
  replace HPa : True := trivial
  clear u0 u1 u2 u3 v0 v1 v2 v3 v4 t0 t1 t2 t3 t4 s0 s1 s2 s3 s4 r0 r1 hx hz hxk hkk hdk hqk hpk hP hN hp7 hat0 hkd0 hb7 hsr hst HP5 HC HPa
  go_wp2_with fail
  refine HPr.out.mono ?_
  rintro e w8 ⟨rfl, q8, os8, he8⟩
  have HF := Lib.hid (show Below w.heap.size w w8 from HL7.out.trans ((he8 ▸ below_grown w7 q8 os8 : Below w7.heap.size w7 w8).mono HL7.out.size))
  clear he8
  go_wp2
  rw [HEE.out]
  exact ⟨rfl, HF.out⟩
end Go.Proofs.YtjkiehmjffgnlaaGreatDoor
namespace Go.Proofs.YtjkiehmjffgnlaaGreatDoor
set_option linter.unusedVariables false
set_option linter.unusedSimpArgs false
open Go.RowKit

theorem stepP_len (X : List NodeT) (c : ChgT) : (stepP X c).length ≤ X.length + 1 := by
  unfold stepP
  rw [List.length_append]
  have h1 := List.length_filter_le (fun n => !decide (keyN n = keyN c.value)) X
  split <;> simp only [List.length_cons, List.length_nil] <;> omega
theorem nowP_len : ∀ (l : List ChgT) (X : List NodeT), (nowP X l).length ≤ X.length + l.length
  | [], X => Nat.le_refl _
  | c :: l, X => by
    have h1 := nowP_len l (stepP X c)
    have h2 := stepP_len X c
    show (nowP (stepP X c) l).length ≤ _
    rw [List.length_cons]
    omega
theorem nowP_at {X : List NodeT} {l : List ChgT} {i : Nat} {c : ChgT} (h : l[i]? = some c) : nowP X (l.take (i + 1)) = nowP (nowP X (l.take i)) [c] := by
  unfold nowP; rw [take_at h, List.foldl_append]
/-- one change of a list of changes, where it lies. -/
theorem chg_sub {w : World} {b o n cap : Nat} {l : List ChgT} (h : Tab 6 (ChgR anyB) w (.slice (some ⟨b, o, none⟩) n cap) l) {i : Nat} {c : ChgT} (hc : l[i]? = some c) : Tab 6 (ChgR anyB) w (.slice (some ⟨b, o + i * 6, none⟩) 1 (cap - i)) [c] := by
  obtain ⟨A', cap', hv, h1, h2, hk⟩ := h
  injection hv with e1 e2 e3
  subst e1 e2 e3
  have hlt := (List.getElem?_eq_some_iff.1 hc).1
  refine ⟨_, _, rfl, by show 1 ≤ _; omega, by omega, fun j x hj => ?_⟩
  match j, hj with
  | 0, hj =>
    injection hj with hj
    subst hj
    obtain ⟨b', o', hA, hb, cs, hl, hcell, hr⟩ := hk i c hc
    injection hA with hA
    injection hA with e1 e2
    subst e1 e2
    exact ⟨_, _, rfl, hb, cs, hl, fun k u hu => by rw [show o + i * 6 + (0 * 6 + k) = o + (i * 6 + k) by omega]; exact hcell k u hu, hr⟩
  | j + 1, hj => simp at hj
set_option maxHeartbeats 32000000 in
set_option maxRecDepth 100000 in
set_option linter.unusedSimpArgs false in
theorem law_twice (dead : List NodeT) (l : List ChgT) (v0 v1 : Value) (w : World) (h0 : Tab 5 (NodeP anyB) w v0 dead) (h1 : Tab 6 (ChgR anyB) w v1 l) (hz : ∀ A n c, v0 = .slice A n c → A = none → n = 0 ∧ c = 0) (hds : dead.length ≤ 2000000) (hls : l.length ≤ 2000000) (hE : MEnv w) :
    Calls Tryz.prog 4 #[v0, v1] w (Ret (.bool true) w) := by
  obtain ⟨E, hEE⟩ : ∃ E, E = Ret (.bool true) w := ⟨_, rfl⟩
  rw [← hEE]
  have HEE := Lib.hid hEE
  obtain ⟨dA, dc, rfl⟩ := tab_shape h0
  obtain ⟨lA, lc, rfl⟩ := tab_shape h1
  obtain ⟨-, hlc, hlm, hlk⟩ := chg_at h1
  unfold maxLen at hlm
  have HFx := Lib.hid (fixed18_any w hE)
  have H0 := Lib.hid h0
  have H1 := Lib.hid h1
  have HZ := Lib.hid (hz dA dead.length dc rfl)
  have HLk := Lib.hid hlk
  clear hEE h0 h1 hz hlk hE
  go_enter Tryz.func4, Tryz.ntmps4
  go_wp2_with fail
  refine HFx.out.mono ?_
  rintro e w1 ⟨rfl, hb1⟩
  have HB1 := Lib.hid hb1
  have HP1 := Lib.hid (patch_any dA dc dead none 0 [] w1 (Tab.below H0.out hb1 (Nat.le_refl _) fun cs x hx => hx.under hb1) HZ.out (Tab.nil _ _ _) (by omega) (by simp))
  clear hb1 HFx
  go_wp2_with fail
  refine HP1.out.mono ?_
  rintro e w2 ⟨A2, c2, D, p2, pa2, ok2, rfl, hN2, hz2, -, hb2, hok2, -⟩
  obtain ⟨rfl, hs2, hst2, -⟩ := hok2 rfl
  have hl2 : D.length ≤ dead.length := by rw [hst2.1]; exact Nat.le_refl _
  have hb2' := HB1.out.trans (hb2.mono HB1.out.size)
  have HB2 := Lib.hid hb2'
  have HN2 := Lib.hid hN2
  have HZ2 := Lib.hid hz2
  have HS2 := Lib.hid hs2
  have HP2 := Lib.hid (patch_any A2 c2 D lA lc l w2 hN2.1 hz2 (Tab.below H1.out hb2' (Nat.le_refl _) fun cs x hx => mov_chg _ _ _ _ _ _ hx (Moves.below hb2' fun _ _ _ => trivial)) (by omega) (by omega))
  clear hN2 hz2 hb2 hb2' hok2 hs2 hst2 HP1
  go_wp2_with fail
  refine HP2.out.mono ?_
  rintro e w3 ⟨A3, c3, a, p3, pa3, ok3, rfl, hN3, hz3, -, hb3, hok3, hno3⟩
  have hb3' := HB2.out.trans (hb3.mono HB2.out.size)
  have HB3 := Lib.hid hb3'
  have HN2' := Lib.hid (HN2.out.under hb3)
  by_cases hbad : badP l = []
  · obtain ⟨rfl, hs3, hst3, -⟩ := hok3 hbad
    have hl3 : a.length ≤ D.length + l.length := by rw [hst3.1]; exact nowP_len l D
    have HN3 := Lib.hid hN3
    have HSt3 := Lib.hid (show Srt leN a ∧ Stab leN (nowP D l) a from ⟨hs3, hst3⟩)
    have HBad := Lib.hid hbad
    have HP3 := Lib.hid (patch_any A3 c3 a lA lc l w3 hN3.1 hz3 (Tab.below H1.out hb3' (Nat.le_refl _) fun cs x hx => mov_chg _ _ _ _ _ _ hx (Moves.below hb3' fun _ _ _ => trivial)) (by omega) (by omega))
    clear hN3 hz3 hb3 hb3' hok3 hno3 hs3 hst3 hbad HP2
    go_wp2_with fail
    refine HP3.out.mono ?_
    rintro e w4 ⟨A4, c4, bb, p4, pa4, ok4, rfl, hN4, -, -, hb4, hok4, -⟩
    obtain ⟨rfl, hs4, hst4, -⟩ := hok4 HBad.out
    have hab : bb = a := (srt_unique leN_ok HSt3.out.1 hs4 (HSt3.out.2.symm.trans ((now_twice D l).trans ((Stab.nowP l HSt3.out.2).trans hst4)))).symm
    subst hab
    have HB4 := Lib.hid (HB3.out.trans (hb4.mono HB3.out.size))
    have HN4 := Lib.hid hN4
    have HNa := Lib.hid (HN3.out.under hb4)
    have HND := Lib.hid (HN2'.out.under hb4)
    clear hN4 hb4 hok4 hs4 hst4 HP3 HN3 HN2' HN2
    go_wp2_with fail
    go_loopg [11, 12] l.length (fun gk v11 v12 wr => ∃ (i : Nat) (A : Option Addr) (c : Nat) (cc : List NodeT), i + gk = l.length ∧ v12 = .int .i64 i ∧ v11 = .slice A cc.length c ∧ cc.length ≤ D.length + i ∧ Hid (NodesP anyB wr (.slice A cc.length c) cc ∧ (A = none → cc.length = 0 ∧ c = 0) ∧ Srt leN cc ∧ Stab leN (nowP D (l.take i)) cc ∧ Below w.heap.size w wr ∧ NodesP anyB wr (.slice A3 bb.length c3) bb ∧ NodesP anyB wr (.slice A4 bb.length c4) bb))
    case atStart => exact ⟨0, A2, c2, D, by omega, rfl, rfl, by omega, Lib.hid ⟨HND.out, HZ2.out, HS2.out, Stab.refl _, HB4.out, HNa.out, HN4.out⟩⟩
    case round =>
      obtain ⟨i, A, c, cc, hig, rfl, rfl, hcl, HR⟩ := hrel
      rcases hd : l.drop i with _ | ⟨ch, rest⟩
      · have hi2 : i = l.length := by have := drop_nil hd; omega
        subst hi2
        obtain ⟨r1, -, r3, r4, r5, r6, r7⟩ := HR.out
        rw [List.take_length] at r4
        have hcc : cc = bb := (srt_unique leN_ok HSt3.out.1 r3 (HSt3.out.2.symm.trans r4)).symm
        subst hcc
        have HSm := Lib.hid (sprops_any cc A3 A cc.length c3 cc.length c wr r6 r1)
        have HR6 := Lib.hid r6
        have HR7 := Lib.hid r7
        have HR5 := Lib.hid r5
        have k1 : ¬ ((l.length : Int) < l.length) := by omega
        clear r1 r3 r4 r5 r6 r7 hd
        go_wp2_with fail
        refine HSm.out.mono ?_
        rintro e w7 ⟨rfl, hb7⟩
        have HSn := Lib.hid (sprops_any cc A3 A4 cc.length c3 cc.length c4 w7 (HR6.out.under hb7) (HR7.out.under hb7))
        have HB7 := Lib.hid (HR5.out.trans (hb7.mono HR5.out.size))
        clear hb7
        go_wp2_with fail
        refine HSn.out.mono ?_
        rintro e w8 ⟨rfl, hb8⟩
        have HF := Lib.hid (HB7.out.trans (hb8.mono HB7.out.size))
        clear hb8
        go_wp2
        rw [HEE.out]
        exact ⟨rfl, HF.out⟩
      · obtain ⟨hlt, hx, hr⟩ := drop_consA hd
        obtain ⟨bl, o, aA, ac, kA, kc, rfl, hbl, -⟩ := HLk.out i ch hx
        have k1 : (i : Int) < l.length := by omega
        have k2 : (0 : Int) ≤ i := by omega
        have k3 : (i : Int) + 1 ≤ lc := by omega
        have k4 : (0 : Int) ≤ (i : Int) + 1 := by omega
        have k5 : (i : Int) ≤ (i : Int) + 1 := by omega
        have k6 : ((i : Int) + 1).toNat = i + 1 := by omega
        have k7 : IntKind.i64.wrap ((i : Int) + 1) = (i : Int) + 1 := IntWalk.i64_in _ (by omega)
        clear hd hr
        obtain ⟨r1, r2, r3, r4, r5, r6, r7⟩ := HR.out
        have HPt := Lib.hid (patch_any A c cc (some ⟨bl, o + i * 6, none⟩) (lc - i) [ch] wr r1.1 r2 (chg_sub (Tab.below H1.out r5 (Nat.le_refl _) fun cs x hx => mov_chg _ _ _ _ _ _ hx (Moves.below r5 fun _ _ _ => trivial)) hx) (by omega) (by simp))
        have hb1 : badP [ch] = [] := prot_bad [ch] fun x hx2 => by rw [List.mem_singleton.1 hx2]; exact bad_none l HBad.out ch (List.mem_of_getElem? hx)
        have HB1 := Lib.hid hb1
        have HX := Lib.hid hx
        have HR4 := Lib.hid r4
        have HR5 := Lib.hid r5
        have HR6 := Lib.hid r6
        have HR7 := Lib.hid r7
        clear r1 r2 r3 r4 r5 r6 r7 hb1 hx HR
        go_wp2_with fail
        refine HPt.out.mono ?_
        rintro e w7 ⟨A7, c7, cn, p7, pa7, ok7, rfl, hN7, hz7, -, hb7, hok7, -⟩
        obtain ⟨rfl, hs7, hst7, -⟩ := hok7 HB1.out
        have hcn : cn.length ≤ D.length + (i + 1) := by
          have h1 := nowP_len [ch] cc
          have h2 := hst7.1
          simp only [List.length_cons, List.length_nil] at h1
          omega
        have HF := Lib.hid (show NodesP anyB w7 (.slice A7 cn.length c7) cn ∧ (A7 = none → cn.length = 0 ∧ c7 = 0) ∧ Srt leN cn ∧ Stab leN (nowP D (l.take (i + 1))) cn ∧ Below w.heap.size w w7 ∧ NodesP anyB w7 (.slice A3 bb.length c3) bb ∧ NodesP anyB w7 (.slice A4 bb.length c4) bb from
          ⟨hN7, hz7, hs7, by rw [nowP_at HX.out]; exact (Stab.nowP [ch] HR4.out).trans hst7, HR5.out.trans (hb7.mono HR5.out.size), HR6.out.under hb7, HR7.out.under hb7⟩)
        clear hN7 hz7 hb7 hok7 hs7 hst7 HPt
        go_wp2
        go_roundg (gk - 1)
        case measure => omega
        case rel => exact ⟨i + 1, A7, c7, cn, by omega, by go_num, rfl, hcn, HF⟩
  · obtain ⟨rfl, rfl, -⟩ := hno3 hbad
    have HSm := Lib.hid (sprops_any a A3 A2 a.length c3 a.length c2 w3 hN3 HN2'.out)
    clear hN3 hz3 hb3 hb3' hok3 hno3 hbad HP2
    go_wp2_with fail
    refine HSm.out.mono ?_
    rintro e w4 ⟨rfl, hb4⟩
    have HF := Lib.hid (HB3.out.trans (hb4.mono HB3.out.size))
    clear hb4
    go_wp2
    rw [HEE.out]
    exact ⟨rfl, HF.out⟩
end Go.Proofs.YtjkiehmjffgnlaaGreatDoor

/-
  The walk of ReplyBack: the law returns true. Conditions: what the listed variables hold; the texts are shorter than some million bytes.
-/
import Derived.Test.YtlkbfehdiopkbaaGreatDoorRepP
import Derived.Deep.RegionWith
namespace Go.Proofs.YtlkbfehdiopkbaaGreatDoor
open Go.RowKit

theorem form_len {r : RespT} (h : goodR r = true) : (formR r).length ≤ (r.hdrs.flatMap hdrF).length + 70000 := by
  have hc := good_code h
  have hb := (good_parts h).2.2.1
  have h1 := codes_len _ hc
  have h2 := (codes_dig _ hc).1
  have h4 : (if r.status = 204 then [] else lenF r.body.length).length ≤ 28 := by
    have := digS_len r.body.length (by omega)
    split
    · simp
    · unfold lenF; simp [crlf]; omega
  have h5 : (if r.close then closeF else []).length ≤ 19 := by split <;> simp [closeF, crlf]
  have h6 : (if r.head then [] else r.body).length ≤ 65536 := by
    split
    · simp
    · exact hb
  unfold formR
  rw [top_up]
  unfold upS
  simp only [List.length_append, crlf, List.length_cons, List.length_nil]
  omega
theorem InB.of {w wx : World} {b : Nat} {st : Int} {A : Option Addr} {hdrs : List HdrT} {cap : Nat} {body : List UInt8} {hd cl : Bool} (h : wx.heap[b]? = some (.cells #[.int .i64 st, .slice A hdrs.length cap, .string ⟨body.toArray⟩, .bool hd, .bool cl] 49 (0, 0)))
    (hh : Hdrs wx (.slice A hdrs.length cap) hdrs) (hb : Below w.heap.size w wx) : InB w b wx st A hdrs cap body hd cl :=
  ⟨(Array.getElem?_eq_some_iff.1 h).1, at5 h 0, at5 h 1, at5 h 2, at5 h 3, at5 h 4, hh, hb⟩
theorem undrew {B : Nat} {a b : World} (h : Below B a.drew b) : Below B a b := ⟨h.os, h.tape, h.output, h.size, h.block⟩
set_option maxHeartbeats 2000000 in
set_option maxRecDepth 100000 in
set_option linter.unusedSimpArgs false in
theorem law_back (r : RespT) (hv : Value) (behind : List UInt8) (cut : Nat) (w : World) (hh : Hdrs w hv r.hdrs) (hl : (r.hdrs.flatMap hdrF).length ≤ 50000000) (hbe : behind.length ≤ 10000000) (hcut : cut ≤ 65535) (hE : Env w) :
    Calls Tryz.prog 10 #[respV r hv, .string ⟨behind.toArray⟩, .int .u16 cut] w (Ret (.bool true) w) := by
  have HH := Lib.hid hh
  obtain ⟨A, cap, rfl, -, -, -⟩ := hh
  have HWr := Lib.hid (fun w' hv (h : Hdrs w' hv r.hdrs) (h2 : Below w.heap.size w w') => write_any r hv w' h (by omega) (hE.below h2))
  have HFx := Lib.hid (fun w' (h : Below w.heap.size w w') => fixed12_any w' (hE.below h))
  cases hG : goodR r
  · rw [writeS_no hG] at HWr
    clear hG hl
    obtain ⟨st, hdrs, body, hd, cl⟩ := r
    unfold respV wV at *
    simp only at *
    have hI : InB w w.heap.size (w.alloc (.cells #[.int .i64 st, .slice A hdrs.length cap, .string ⟨body.toArray⟩, .bool hd, .bool cl] 49)) st A hdrs cap body hd cl := InB.mk' (Below.refl _ w) HH.out
    have HI := Lib.hid hI
    clear hI
    go_enter Tryz.func10, Tryz.ntmps10
    go_wp2_with fail
    generalize (w.alloc (.cells #[.int .i64 st, .slice A hdrs.length cap, .string ⟨body.toArray⟩, .bool hd, .bool cl] 49)) = wa at *
    refine (HFx.out _ HI.out.bel).mono ?_
    rintro e w1 ⟨rfl, hb1⟩
    have hJ := HI.out.keep hb1
    have HJ := Lib.hid hJ
    obtain ⟨-, d0, d1, d2, d3, d4, -, -⟩ := hJ
    clear hb1 HI
    go_wp2_with fail
    refine (HWr.out _ _ HJ.out.hh HJ.out.bel).mono ?_
    rintro e w2 ⟨rfl, hb2⟩
    have HK := Lib.hid (HJ.out.keep hb2)
    clear d0 d1 d2 d3 d4 hb2 HJ
    go_wp2
    go_ret
    exact ⟨rfl, HK.out.bel⟩
  · have hFl := form_len hG
    rw [writeS_good hG] at HWr
    have hF1 := formR_pos r
    have HBk := Lib.hid (read_back stS stS_codes r hG behind)
    have HSh := Lib.hid (fun k (hk : k < (formR r).length) => read_short stS stS_codes r hG ((formR r).take k) ((formR r).drop k) (List.take_append_drop k _).symm (fun e => by have := congrArg List.length e; rw [List.length_drop, List.length_nil] at this; omega))
    have HR1 := Lib.hid (fun w' (h : Below w.heap.size w w') => read_any (formR r ++ behind) r.head w' (by rw [List.length_append]; omega) (hE.below h))
    rw [HBk.out] at HR1
    have hq : cut % (formR r).length < (formR r).length := Nat.mod_lt _ (by omega)
    have HR2 := Lib.hid (fun w' (h : Below w.heap.size w w') => read_any ((formR r).take (cut % (formR r).length)) r.head w' (by rw [List.length_take]; omega) (hE.below h))
    rw [HSh.out _ hq] at HR2
    unfold ReadP zeroV at HR2
    simp only at HR2
    clear HBk HSh hG
    obtain ⟨st, hdrs, body, hd, cl⟩ := r
    generalize formR ⟨st, hdrs, body, hd, cl⟩ = F at *
    unfold respV wV at *
    simp only at *
    have hI : InB w w.heap.size (w.alloc (.cells #[.int .i64 st, .slice A hdrs.length cap, .string ⟨body.toArray⟩, .bool hd, .bool cl] 49)) st A hdrs cap body hd cl := InB.mk' (Below.refl _ w) HH.out
    have HI := Lib.hid hI
    clear hI
    have m1 : (0 : Int) ≤ (cut : Int) := by omega
    have m2 : (1 : Int) ≤ F.length := by omega
    obtain ⟨q, hqq⟩ : ∃ q, q = cut % F.length := ⟨_, rfl⟩
    rw [← hqq] at hq HR2
    have m3 : (cut : Int).tmod F.length = (q : Int) := by rw [hqq]; rfl
    have m4 : (q : Int) ≤ F.length := by omega
    have m5 : (0 : Int) ≤ (q : Int) := by omega
    have m6 : F ≠ [] := fun e => by rw [e] at hF1; simp at hF1
    have m7 : ((F.length : Int) == 0) = false := beq_eq_false_iff_ne.2 (by omega)
    have m8 : q ≤ F.length := by omega
    have m9 : (0 ≤ (q : Int) ∧ (q : Int) ≤ F.length) := ⟨m5, m4⟩
    have m10 : IntKind.i64.wrap (q : Int) = q := IntWalk.i64_in _ (by omega)
    have m11 : IntKind.i64.wrap (cut : Int) = cut := IntWalk.i64_in _ (by omega)
    clear hqq
    have m12 : ∀ w, (Instr.slice 9 (.string ⟨F.toArray⟩) none (some (.int .i64 (q : Int))) none).run Tryz.prog w = .ok (.string ⟨(F.take q).toArray⟩) w := fun w => by
      go_simp
    cases hd
    · go_enter Tryz.func10, Tryz.ntmps10
      go_wp2_with fail
      generalize (w.alloc (.cells #[.int .i64 st, .slice A hdrs.length cap, .string ⟨body.toArray⟩, .bool false, .bool cl] 49)) = wa at *
      refine (HFx.out _ HI.out.bel).mono ?_
      rintro e w1 ⟨rfl, hb1⟩
      have hJ := HI.out.keep hb1
      have HJ := Lib.hid hJ
      obtain ⟨-, d0, d1, d2, d3, d4, -, -⟩ := hJ
      clear hb1 HI
      go_wp2_with fail
      refine (HWr.out _ _ HJ.out.hh HJ.out.bel).mono ?_
      rintro e w2 ⟨rfl, hb2⟩
      have hK := HJ.out.keep hb2
      have HK := Lib.hid hK
      have hI3 : InB w w2.heap.size (w2.alloc (.cells #[.int .i64 st, .slice A hdrs.length cap, .string ⟨body.toArray⟩, .bool false, .bool cl] 49)) st A hdrs cap body false cl := InB.mk' hK.bel hK.hh
      have hI4 : InB w w.heap.size (w2.alloc (.cells #[.int .i64 st, .slice A hdrs.length cap, .string ⟨body.toArray⟩, .bool false, .bool cl] 49)) st A hdrs cap body false cl := hK.keep ((Below.refl _ w2).alloc (Nat.le_refl _) _)
      have HI3 := Lib.hid hI3
      have HI4 := Lib.hid hI4
      obtain ⟨-, e0, e1, e2, e3, e4, -, -⟩ := hK
      obtain ⟨-, -, -, -, g3, -, -, -⟩ := hI4
      clear d0 d1 d2 d3 d4 hb2 HJ hI3 HWr
      go_wp2_with fail
      generalize (w2.alloc (.cells #[.int .i64 st, .slice A hdrs.length cap, .string ⟨body.toArray⟩, .bool false, .bool cl] 49)) = w3 at *
      generalize w2.heap.size = b9 at *
      simp only [Bool.false_eq_true, if_false] at HR1
      clear e0 e1 e2 e3 e4 HK
      refine (HR1.out _ HI3.out.bel).mono ?_
      rintro e w4 ⟨hb4, hv2, rfl, hh2⟩
      obtain ⟨A2, cap2, hvA, hx1, hx2, hx3⟩ := hh2
      simp only at hvA
      subst hvA
      have hbel4 : Below w.heap.size w w4 := HI3.out.bel.trans (hb4.mono HI3.out.bel.size)
      have hI5 : InB w w4.heap.size (w4.alloc (.cells #[.int .i64 st, .slice A2 hdrs.length cap2, .string ⟨body.toArray⟩, .bool false, .bool cl] 49)) st A2 hdrs cap2 body false cl := InB.mk' hbel4 ⟨A2, cap2, rfl, hx1, hx2, hx3⟩
      have hbx : Below w4.heap.size w4 (w4.alloc (.cells #[.int .i64 st, .slice A2 hdrs.length cap2, .string ⟨body.toArray⟩, .bool false, .bool cl] 49)) := (Below.refl _ _).alloc (Nat.le_refl _) _
      have hI6 := (HI3.out.keep hb4).keep hbx
      have hI7 := ((HI4.out.keep hb4).keep hbx).c3
      clear hx1 hx2 hx3 hb4 hbx g3 HI3 HI4 HR1 hbel4
      unfold respV
      go_wp2_with fail
      generalize (w4.alloc (.cells #[.int .i64 st, .slice A2 hdrs.length cap2, .string ⟨body.toArray⟩, .bool false, .bool cl] 49)) = w5 at *
      generalize w4.heap.size = b10 at *
      have HS9 := Lib.hid hI6
      have HS10 := Lib.hid hI5
      have hl0 := hI7
      have hb5 := hI5.bel
      clear hI5 hI6 hI7
      have HRa := Lib.hid (HR2.out (w5.alloc (.cells #[.int .i64 0, .slice none 0 0, .string ⟨#[]⟩, .bool false, .bool false] 49)).drew (hb5.alloc hb5.size _).drew)
      have HRb := Lib.hid (HR2.out w5.drew hb5.drew)
      have hqa := heap_alloc_new w5 (.cells #[.int .i64 0, .slice none 0 0, .string ⟨#[]⟩, .bool false, .bool false] 49)
      have hza : w5.heap.size < (w5.alloc (.cells #[.int .i64 0, .slice none 0 0, .string ⟨#[]⟩, .bool false, .bool false] 49)).drew.heap.size := by show _ < (w5.alloc _).heap.size; simp
      have HQa := Lib.hid (fun (w6 : World) (hb6 : Below (w5.alloc (.cells #[.int .i64 0, .slice none 0 0, .string ⟨#[]⟩, .bool false, .bool false] 49)).drew.heap.size (w5.alloc (.cells #[.int .i64 0, .slice none 0 0, .string ⟨#[]⟩, .bool false, .bool false] 49)).drew w6) => set5_cells (.int .i64 0) (.slice none 0 0) (.string ⟨#[]⟩) (.bool false) ((hb6.block w5.heap.size hza).trans hqa))
      have hl5 : w5.cell? ⟨w.heap.size, 3, none⟩ = some (.bool false) := hl0
      have hla : (w5.alloc (.cells #[.int .i64 0, .slice none 0 0, .string ⟨#[]⟩, .bool false, .bool false] 49)).cell? ⟨w.heap.size, 3, none⟩ = some (.bool false) := (Below.cell ((Below.refl w5.heap.size w5).alloc (Nat.le_refl _) _) (p := ⟨w.heap.size, 3, none⟩) (World.block_lt_of_cell? w5 _ hl5)).trans hl5
      clear hqa hza hl0
      go_region_with (first
        | (go_at_call 27; (with_reducible refine HRb.out.mono ?_); rintro e w6 ⟨hb6, rfl⟩)
        | (go_at_call 27; (with_reducible refine HRa.out.mono ?_); rintro e w6 ⟨hb6, rfl⟩; obtain ⟨c0, c1, c2, c3, c4, f0, f1, f2, f3, f4⟩ := HQa.out w6 hb6))
      all_goals
        first
          | (have hbf : Below w5.heap.size w5 (w6.alloc (.cells #[.int .i64 0, .slice none 0 0, .string ⟨#[]⟩, .bool false, .bool false] 49)) := (undrew hb6).alloc (undrew hb6).size _
             have hJ9 := HS9.out.keep hbf
             have hJ10 := HS10.out.keep hbf
             generalize w6.alloc (.cells #[.int .i64 0, .slice none 0 0, .string ⟨#[]⟩, .bool false, .bool false] 49) = wf at hbf hJ9 hJ10 ⊢)
          | (have hbf : Below w5.heap.size w5 (((((w6.setCell ⟨w5.heap.size, 0, none⟩ (.int .i64 0)).setCell ⟨w5.heap.size, 1, none⟩ (.slice none 0 0)).setCell ⟨w5.heap.size, 2, none⟩ (.string ⟨#[]⟩)).setCell ⟨w5.heap.size, 3, none⟩ (.bool false)).setCell ⟨w5.heap.size, 4, none⟩ (.bool false)) :=
               set5_below (((Below.refl w5.heap.size w5).alloc (Nat.le_refl _) _).trans ((undrew hb6).mono (by simp))) (Nat.le_refl _) _ _ _ _ _
             clear c0 c1 c2 c3 c4 f0 f1 f2 f3 f4
             generalize (((((w6.setCell ⟨w5.heap.size, 0, none⟩ (.int .i64 0)).setCell ⟨w5.heap.size, 1, none⟩ (.slice none 0 0)).setCell ⟨w5.heap.size, 2, none⟩ (.string ⟨#[]⟩)).setCell ⟨w5.heap.size, 3, none⟩ (.bool false)).setCell ⟨w5.heap.size, 4, none⟩ (.bool false)) = wf at hbf ⊢
             have hJ9 := HS9.out.keep hbf
             have hJ10 := HS10.out.keep hbf)
        have HJ9 := Lib.hid hJ9
        have HJ10 := Lib.hid hJ10
        obtain ⟨-, c0, c1, c2, c3, c4, -, -⟩ := hJ9
        obtain ⟨-, d0, d1, d2, d3, d4, -, -⟩ := hJ10
        have HSm := Lib.hid (rsame_any ⟨st, hdrs, body, false, cl⟩ (.slice A2 hdrs.length cap2) (.slice A hdrs.length cap) wf HJ10.out.hh HJ9.out.hh)
        unfold respV at HSm
        simp only at HSm
        clear hbf hb6 HRa HRb HQa hla hl5 hb5 HS9 HS10
        go_wp2_with fail
        refine HSm.out.mono ?_
        rintro e w7 ⟨rfl, hb7⟩
        clear c0 c1 c2 c3 c4 d0 d1 d2 d3 d4
        go_wp2
        go_ret
        exact ⟨by simp, HJ9.out.bel.trans (hb7.mono HJ9.out.bel.size)⟩
    · go_enter Tryz.func10, Tryz.ntmps10
      go_wp2_with fail
      generalize (w.alloc (.cells #[.int .i64 st, .slice A hdrs.length cap, .string ⟨body.toArray⟩, .bool true, .bool cl] 49)) = wa at *
      refine (HFx.out _ HI.out.bel).mono ?_
      rintro e w1 ⟨rfl, hb1⟩
      have hJ := HI.out.keep hb1
      have HJ := Lib.hid hJ
      obtain ⟨-, d0, d1, d2, d3, d4, -, -⟩ := hJ
      clear hb1 HI
      go_wp2_with fail
      refine (HWr.out _ _ HJ.out.hh HJ.out.bel).mono ?_
      rintro e w2 ⟨rfl, hb2⟩
      have hK := HJ.out.keep hb2
      have HK := Lib.hid hK
      have hI3 : InB w w2.heap.size (w2.alloc (.cells #[.int .i64 st, .slice A hdrs.length cap, .string ⟨#[]⟩, .bool true, .bool cl] 49)) st A hdrs cap [] true cl := InB.mk' hK.bel hK.hh
      have hI4 : InB w w.heap.size (w2.alloc (.cells #[.int .i64 st, .slice A hdrs.length cap, .string ⟨#[]⟩, .bool true, .bool cl] 49)) st A hdrs cap body true cl := hK.keep ((Below.refl _ w2).alloc (Nat.le_refl _) _)
      have g4 := (hK.keep ((Below.refl _ w2).alloc (Nat.le_refl _) (.cells #[.int .i64 st, .slice A hdrs.length cap, .string ⟨body.toArray⟩, .bool true, .bool cl] 49))).c3
      have HI3 := Lib.hid hI3
      have HI4 := Lib.hid hI4
      obtain ⟨-, e0, e1, e2, e3, e4, -, -⟩ := hK
      obtain ⟨-, -, -, -, g3, -, -, -⟩ := hI4
      clear d0 d1 d2 d3 d4 hb2 HJ hI3 HWr
      go_wp2_with fail
      generalize (w2.alloc (.cells #[.int .i64 st, .slice A hdrs.length cap, .string ⟨#[]⟩, .bool true, .bool cl] 49)) = w3 at *
      generalize w2.heap.size = b9 at *
      simp only [if_true] at HR1
      clear e0 e1 e2 e3 e4 g4 HK
      refine (HR1.out _ HI3.out.bel).mono ?_
      rintro e w4 ⟨hb4, hv2, rfl, hh2⟩
      obtain ⟨A2, cap2, hvA, hx1, hx2, hx3⟩ := hh2
      simp only at hvA
      subst hvA
      have hbel4 : Below w.heap.size w w4 := HI3.out.bel.trans (hb4.mono HI3.out.bel.size)
      have hI5 : InB w w4.heap.size (w4.alloc (.cells #[.int .i64 st, .slice A2 hdrs.length cap2, .string ⟨#[]⟩, .bool true, .bool cl] 49)) st A2 hdrs cap2 [] true cl := InB.mk' hbel4 ⟨A2, cap2, rfl, hx1, hx2, hx3⟩
      have hbx : Below w4.heap.size w4 (w4.alloc (.cells #[.int .i64 st, .slice A2 hdrs.length cap2, .string ⟨#[]⟩, .bool true, .bool cl] 49)) := (Below.refl _ _).alloc (Nat.le_refl _) _
      have hI6 := (HI3.out.keep hb4).keep hbx
      have hI7 := ((HI4.out.keep hb4).keep hbx).c3
      clear hx1 hx2 hx3 hb4 hbx g3 HI3 HI4 HR1 hbel4
      unfold respV
      go_wp2_with fail
      generalize (w4.alloc (.cells #[.int .i64 st, .slice A2 hdrs.length cap2, .string ⟨#[]⟩, .bool true, .bool cl] 49)) = w5 at *
      generalize w4.heap.size = b10 at *
      have HS9 := Lib.hid hI6
      have HS10 := Lib.hid hI5
      have hl0 := hI7
      have hb5 := hI5.bel
      clear hI5 hI6 hI7
      have HRa := Lib.hid (HR2.out (w5.alloc (.cells #[.int .i64 0, .slice none 0 0, .string ⟨#[]⟩, .bool false, .bool false] 49)).drew (hb5.alloc hb5.size _).drew)
      have HRb := Lib.hid (HR2.out w5.drew hb5.drew)
      have hqa := heap_alloc_new w5 (.cells #[.int .i64 0, .slice none 0 0, .string ⟨#[]⟩, .bool false, .bool false] 49)
      have hza : w5.heap.size < (w5.alloc (.cells #[.int .i64 0, .slice none 0 0, .string ⟨#[]⟩, .bool false, .bool false] 49)).drew.heap.size := by show _ < (w5.alloc _).heap.size; simp
      have HQa := Lib.hid (fun (w6 : World) (hb6 : Below (w5.alloc (.cells #[.int .i64 0, .slice none 0 0, .string ⟨#[]⟩, .bool false, .bool false] 49)).drew.heap.size (w5.alloc (.cells #[.int .i64 0, .slice none 0 0, .string ⟨#[]⟩, .bool false, .bool false] 49)).drew w6) => set5_cells (.int .i64 0) (.slice none 0 0) (.string ⟨#[]⟩) (.bool false) ((hb6.block w5.heap.size hza).trans hqa))
      have hl5 : w5.cell? ⟨w.heap.size, 3, none⟩ = some (.bool true) := hl0
      have hla : (w5.alloc (.cells #[.int .i64 0, .slice none 0 0, .string ⟨#[]⟩, .bool false, .bool false] 49)).cell? ⟨w.heap.size, 3, none⟩ = some (.bool true) := (Below.cell ((Below.refl w5.heap.size w5).alloc (Nat.le_refl _) _) (p := ⟨w.heap.size, 3, none⟩) (World.block_lt_of_cell? w5 _ hl5)).trans hl5
      clear hqa hza hl0
      go_region_with (first
        | (go_at_call 27; (with_reducible refine HRb.out.mono ?_); rintro e w6 ⟨hb6, rfl⟩)
        | (go_at_call 27; (with_reducible refine HRa.out.mono ?_); rintro e w6 ⟨hb6, rfl⟩; obtain ⟨c0, c1, c2, c3, c4, f0, f1, f2, f3, f4⟩ := HQa.out w6 hb6))
      all_goals
        first
          | (have hbf : Below w5.heap.size w5 (w6.alloc (.cells #[.int .i64 0, .slice none 0 0, .string ⟨#[]⟩, .bool false, .bool false] 49)) := (undrew hb6).alloc (undrew hb6).size _
             have hJ9 := HS9.out.keep hbf
             have hJ10 := HS10.out.keep hbf
             generalize w6.alloc (.cells #[.int .i64 0, .slice none 0 0, .string ⟨#[]⟩, .bool false, .bool false] 49) = wf at hbf hJ9 hJ10 ⊢)
          | (have hbf : Below w5.heap.size w5 (((((w6.setCell ⟨w5.heap.size, 0, none⟩ (.int .i64 0)).setCell ⟨w5.heap.size, 1, none⟩ (.slice none 0 0)).setCell ⟨w5.heap.size, 2, none⟩ (.string ⟨#[]⟩)).setCell ⟨w5.heap.size, 3, none⟩ (.bool false)).setCell ⟨w5.heap.size, 4, none⟩ (.bool false)) :=
               set5_below (((Below.refl w5.heap.size w5).alloc (Nat.le_refl _) _).trans ((undrew hb6).mono (by simp))) (Nat.le_refl _) _ _ _ _ _
             clear c0 c1 c2 c3 c4 f0 f1 f2 f3 f4
             generalize (((((w6.setCell ⟨w5.heap.size, 0, none⟩ (.int .i64 0)).setCell ⟨w5.heap.size, 1, none⟩ (.slice none 0 0)).setCell ⟨w5.heap.size, 2, none⟩ (.string ⟨#[]⟩)).setCell ⟨w5.heap.size, 3, none⟩ (.bool false)).setCell ⟨w5.heap.size, 4, none⟩ (.bool false)) = wf at hbf ⊢
             have hJ9 := HS9.out.keep hbf
             have hJ10 := HS10.out.keep hbf)
        have HJ9 := Lib.hid hJ9
        have HJ10 := Lib.hid hJ10
        obtain ⟨-, c0, c1, c2, c3, c4, -, -⟩ := hJ9
        obtain ⟨-, d0, d1, d2, d3, d4, -, -⟩ := hJ10
        have HSm := Lib.hid (rsame_any ⟨st, hdrs, [], true, cl⟩ (.slice A2 hdrs.length cap2) (.slice A hdrs.length cap) wf HJ10.out.hh HJ9.out.hh)
        unfold respV at HSm
        simp only at HSm
        clear hbf hb6 HRa HRb HQa hla hl5 hb5 HS9 HS10
        go_wp2_with fail
        refine HSm.out.mono ?_
        rintro e w7 ⟨rfl, hb7⟩
        clear c0 c1 c2 c3 c4 d0 d1 d2 d3 d4
        go_wp2
        go_ret
        exact ⟨by simp, HJ9.out.bel.trans (hb7.mono HJ9.out.bel.size)⟩
end Go.Proofs.YtlkbfehdiopkbaaGreatDoor

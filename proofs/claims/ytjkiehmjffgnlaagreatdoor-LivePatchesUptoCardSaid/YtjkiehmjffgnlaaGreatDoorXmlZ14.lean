import Derived.Test.YtjkiehmjffgnlaaGreatDoorXmlZ12
import Derived.Test.YtjkiehmjffgnlaaGreatDoorXmlZ11
namespace Go.Proofs.YtjkiehmjffgnlaaGreatDoor
set_option linter.unusedVariables false
set_option linter.unusedSimpArgs false
open Go.RowKit

set_option maxHeartbeats 32000000 in
set_option maxRecDepth 100000 in
set_option linter.unusedSimpArgs false in
theorem xelem_any (b : Nat) (s : List UInt8) (sv : Value) (sc : Scope) (w : World) (h : PX w b s) (hs : s.length ≤ 1000000) (hE : XE w b) (hsc : ScP (· ≠ b) w sv sc) (hC : ContOk s.length) :
    Calls Tryz.prog 63 #[.pointer (some ⟨b, 0, none⟩), sv] w (XOut b (elemX sc s) (ElV w.heap.size) w) := by
  have hbw : b < w.heap.size := h.lt
  have HW := Lib.hid (fun wx s (h : PX wx b s) => xwhite_any b s wx h)
  have HQn := Lib.hid (fun wx s (h : PX wx b s) (hs : s.length ≤ 1000000) => xqname_any b s wx h (by omega))
  have HMu := Lib.hid (fun wx s word (h : PX wx b s) => xmust_any b s word wx h)
  have HEt := Lib.hid (fun wx s word (h : PX wx b s) => xeat_any b s word wx h)
  have HAt := Lib.hid (fun wx s sv sc (h : PX wx b s) (hs : s.length ≤ 1000000) (hg : w.grownBy wx (some b)) (hsc : ScP (· ≠ b) wx sv sc) => xattrs_any b s sv sc wx h hs (hE.step hg) hsc)
  have HFi := Lib.hid (fun wx p sc v (h : ScP (· ≠ b) wx v sc) => xfind_any (· ≠ b) p wx sc v h)
  have HCo := Lib.hid (fun wx r sv sc (hl : r.length < s.length) (hr : r.length ≤ 1000000) (h : PX wx b r) (hg : w.grownBy wx (some b)) (hsc : ScP (· ≠ b) wx sv sc) => hC b r sv sc wx hl hr h (hE.step hg) hsc)
  have hX := elemX_eq sc s
  obtain ⟨ANS, hA⟩ : ∃ A, elemX sc s = A := ⟨_, rfl⟩
  rw [hA] at hX ⊢
  have HX := Lib.hid hX
  have HS0 := Lib.hid (elem_start h hsc)
  clear h hA hX hE hsc hC
  go_enter Tryz.func63, Tryz.ntmps63
  go_wp2_with fail
  obtain ⟨hp0, hsc0, hg0, h40, hlt0⟩ := HS0.out
  have HP0 := Lib.hid hp0
  have HSc0 := Lib.hid hsc0
  have HG0 := Lib.hid hg0
  have H40 := Lib.hid h40
  clear hp0 hsc0 hg0 h40 HS0
  generalize w.alloc (.cells #[.string ⟨#[]⟩, .string ⟨#[]⟩, .string ⟨#[]⟩, .slice none 0 0, .slice none 0 0] 46 (0, 0)) = w0 at *
  obtain ⟨e4, he4⟩ : ∃ e4, e4 = w.heap.size := ⟨_, rfl⟩
  rw [← he4] at hbw hlt0 H40 ⊢
  have hwe : w.heap.size ≤ e4 := Nat.le_of_eq he4.symm
  clear he4
  refine (HMu.out w0 s [60] HP0.out).mono ?_
  rintro e w1 ⟨hg1, hx1⟩
  have HG1 := Lib.hid (grown_trans HG0.out hg1)
  have HSc1 := Lib.hid (HSc0.out.move (Moves.grown hg1 fun k hk _ => ⟨hk, fun e => by injection e with e; exact hk e⟩))
  have H41 := Lib.hid ((hg1.block e4 hlt0 (by intro e; injection e with e; omega)).trans H40.out)
  have hlt1 : e4 < w1.heap.size := Nat.lt_of_lt_of_le hlt0 hg1.size
  clear hg1 HG0 HSc0 H40 HP0 hlt0
  rcases h1 : eatX [60] s with _ | ⟨u, bg⟩
  · rw [h1] at hx1
    subst hx1
    exact ⟨rfl, xout_no (by rw [HX.out, h1]; rfl) HG1.out⟩
  rw [h1] at hx1
  obtain ⟨_, rfl, rfl, hp1⟩ := hx1
  have hl1 := eat_lenX h1
  have HP1 := Lib.hid hp1
  have HX1 := Lib.hid (show ANS = thenX (qnameX bg) fun pl r => thenX (attrsX (r.length + 1) [] [] sc r) fun ats r1 =>
      match findX ats.2 pl.1 with
      | none => none
      | some sp =>
        match eatX [47, 62] r1 with
        | some (_, q) => some (.mk [] sp pl.2 ats.1 [], q)
        | none => thenX (eatX [62] r1) fun _ r2 => thenX (contX ats.2 [] r2) fun ks r3 => thenX (eatX [60, 47] r3) fun _ r4 =>
            thenX (eatX (bg.take (bg.length - r.length)) r4) fun _ r5 => thenX (eatX [62] (whiteX r5)) fun _ r6 => some (.mk [] sp pl.2 ats.1 ks, r6) by rw [HX.out, h1]; rfl)
  clear h1 hp1 HX
  have x0 := HP1.out.c0
  go_wp2_with fail
  clear x0
  refine (HQn.out w1 bg HP1.out (by omega)).mono ?_
  rintro e w2 ⟨hg2, hx2⟩
  have HG2 := Lib.hid (grown_trans HG1.out hg2)
  have HSc2 := Lib.hid (HSc1.out.move (Moves.grown hg2 fun k hk _ => ⟨hk, fun e => by injection e with e; exact hk e⟩))
  have H42 := Lib.hid ((hg2.block e4 hlt1 (by intro e; injection e with e; omega)).trans H41.out)
  have hlt2 : e4 < w2.heap.size := Nat.lt_of_lt_of_le hlt1 hg2.size
  clear hg2 HG1 HSc1 H41 HP1 hlt1 HQn
  rcases h2 : qnameX bg with _ | ⟨⟨p, l⟩, r2⟩
  · rw [h2] at hx2
    subst hx2
    exact ⟨rfl, xout_no (by rw [HX1.out, h2]; rfl) HG2.out⟩
  rw [h2] at hx2
  obtain ⟨_, rfl, rfl, hp2⟩ := hx2
  have hl2 := qnameX_len h2
  have HP2 := Lib.hid hp2
  obtain ⟨k, hk⟩ : ∃ k : Nat, bg.length - r2.length = k := ⟨_, rfl⟩
  have hkz : (bg.length : Int) - (r2.length : Int) = (k : Int) := by omega
  have hkb : k ≤ bg.length := by omega
  have hkb2 : (k : Int) ≤ (bg.length : Int) := by omega
  have hk0 : (0 : Int) ≤ (k : Int) := by omega
  have hk6 : (k : Int) ≤ 1000000 := by omega
  have HX2 := Lib.hid (show ANS = thenX (attrsS [] [] sc r2) fun ats r1 =>
      match findX ats.2 p with
      | none => none
      | some sp =>
        match eatX [47, 62] r1 with
        | some (_, q) => some (.mk [] sp l ats.1 [], q)
        | none => thenX (eatX [62] r1) fun _ r2 => thenX (contX ats.2 [] r2) fun ks r3 => thenX (eatX [60, 47] r3) fun _ r4 =>
            thenX (eatX (bg.take k) r4) fun _ r5 => thenX (eatX [62] (whiteX r5)) fun _ r6 => some (.mk [] sp l ats.1 ks, r6) by rw [HX1.out, h2, ← hk]; rfl)
  have hr2 : r2.length < s.length := by simp only [List.length_cons, List.length_nil] at hl1; omega
  clear h2 hp2 HX1 hk hl1 hl2
  have x0 := HP2.out.c0
  go_wp2_with fail
  clear x0 hkz
  refine (HAt.out w2 r2 sv sc HP2.out (by omega) HG2.out HSc2.out).mono ?_
  rintro e w3 ⟨hg3, hx3⟩
  have HG3 := Lib.hid (grown_trans HG2.out hg3)
  have H43 := Lib.hid ((hg3.block e4 hlt2 (by intro e; injection e with e; omega)).trans H42.out)
  have hlt3 : e4 < w3.heap.size := Nat.lt_of_lt_of_le hlt2 hg3.size
  clear hg3 HG2 HSc2 H42 HP2 HAt
  rcases h3 : attrsS [] [] sc r2 with _ | ⟨⟨ats, sc2⟩, r3⟩
  · rw [h3] at hx3
    subst hx3
    exact ⟨rfl, xout_no (by rw [HX2.out, h3]; rfl) HG3.out⟩
  rw [h3] at hx3
  obtain ⟨_, rfl, ⟨av, sv2, rfl, hat, hsc2⟩, hp3⟩ := hx3
  have hl3 := (attrs_ok _ _ _ _ _ _ _ h3).1
  have HP3 := Lib.hid hp3
  have HSc3 := Lib.hid (show ScP (· ≠ b) w3 sv2 sc2 from hsc2)
  have HAv := Lib.hid (show AttrsP (w2.heap.size ≤ ·) w3 av ats from hat)
  have HX3 := Lib.hid (show ANS = match findX sc2 p with
      | none => none
      | some sp =>
        match eatX [47, 62] r3 with
        | some (_, q) => some (.mk [] sp l ats [], q)
        | none => thenX (eatX [62] r3) fun _ r2 => thenX (contX sc2 [] r2) fun ks r3 => thenX (eatX [60, 47] r3) fun _ r4 =>
            thenX (eatX (bg.take k) r4) fun _ r5 => thenX (eatX [62] (whiteX r5)) fun _ r6 => some (.mk [] sp l ats ks, r6) by rw [HX2.out, h3]; rfl)
  obtain ⟨avA, avc, hav⟩ := tab_shape hat.1
  subst hav
  clear h3 hp3 HX2 hat hsc2
  go_wp2_with fail
  refine (HFi.out w3 p sc2 sv2 HSc3.out).mono ?_
  rintro e w4 ⟨rfl, rfl⟩
  clear HFi
  rcases h4 : findX sc2 p with _ | sp
  · have HX4 := Lib.hid (show ANS = none by rw [HX3.out, h4])
    clear h4 HX3
    go_wp2_with fail
    refine (xfail_any _).mono ?_
    rintro e w9 ⟨rfl, rfl⟩
    exact ⟨rfl, xout_no HX4.out HG3.out⟩
  have HX4 := Lib.hid (show ANS = match eatX [47, 62] r3 with
        | some (_, q) => some (.mk [] sp l ats [], q)
        | none => thenX (eatX [62] r3) fun _ r2 => thenX (contX sc2 [] r2) fun ks r3 => thenX (eatX [60, 47] r3) fun _ r4 =>
            thenX (eatX (bg.take k) r4) fun _ r5 => thenX (eatX [62] (whiteX r5)) fun _ r6 => some (.mk [] sp l ats ks, r6) by rw [HX3.out, h4])
  have hb4 : Below w3.heap.size w3 (w3.alloc (.cells #[.string ⟨#[]⟩, .string ⟨sp.toArray⟩, .string ⟨l.toArray⟩, .slice avA ats.length avc, .slice none 0 0] 46 (0, 0))) := (Below.refl _ _).alloc (Nat.le_refl _) _
  have HEl4 := Lib.hid (ElS.new (sp := sp) (l := l) H43.out HAv.out hbw hlt2)
  have HP4 := Lib.hid (HP3.out.below hb4)
  have HG4 := Lib.hid (grown_trans HG3.out (Below.toGrown hb4 (some b)))
  have HSc4 := Lib.hid (HSc3.out.move (Moves.below hb4 fun _ hk _ => hk))
  clear h4 HX3 hb4 HSc3 HP3 HG3 H43 HAv
  go_wp2_with fail
  generalize w3.alloc (.cells #[.string ⟨#[]⟩, .string ⟨sp.toArray⟩, .string ⟨l.toArray⟩, .slice avA ats.length avc, .slice none 0 0] 46 (0, 0)) = w4 at *
  obtain ⟨e12, he12⟩ : ∃ e12, w3.heap.size = e12 := ⟨_, rfl⟩
  rw [he12] at HEl4 ⊢
  have h12 : w.heap.size ≤ e12 := by omega
  clear he12
  refine (HEt.out w4 r3 [47, 62] HP4.out).mono ?_
  rintro e w5 ⟨hg5, hx5⟩
  have HG5 := Lib.hid (grown_trans HG4.out hg5)
  have HEl5 := Lib.hid (HEl4.out.step hg5)
  have HSc5 := Lib.hid (HSc4.out.move (Moves.grown hg5 fun k hk _ => ⟨hk, fun e => by injection e with e; exact hk e⟩))
  clear hg5 HG4 HEl4 HSc4 HP4 HEt
  rcases h5 : eatX [47, 62] r3 with _ | ⟨u5, q⟩
  rotate_left
  · rw [h5] at hx5
    obtain ⟨rfl, hp5⟩ := hx5
    have HX5 := Lib.hid (show ANS = some (.mk [] sp l ats [], q) by rw [HX4.out, h5])
    have HP5 := Lib.hid hp5
    clear h5 hp5 HX4
    go_wp2_with (refine wpList_load_row rfl 46 _ rfl e12 rfl 46 _ _ _ HEl5.out.c12 Tryz.underlying46 rfl (by kernel_rfl) ?_; refine wpList_store_row rfl 46 _ _ rfl e4 _ rfl rfl 46 _ HEl5.out.c4 (by kernel_rfl) rfl (by simp [Value.oneCell']) ?_)
    refine bodyPost_ret (results_cell_row rfl _ _ e4 _ _ _ _ rfl (setRow_heap _ e4 _ _ _ _ HEl5.out.c4) Tryz.underlying46 rfl (by kernel_rfl)) rfl ?_
    exact xout_ok HX5.out (grown_in HG5.out (grown_row _ _ _) hwe) (HEl5.out.out.mono hwe) (HP5.out.keep (grown_row _ _ _) (by intro e; injection e with e; omega))
  rw [h5] at hx5
  obtain ⟨rfl, hp5⟩ := hx5
  have HX5 := Lib.hid (show ANS = thenX (eatX [62] r3) fun _ r2 => thenX (contX sc2 [] r2) fun ks r3 => thenX (eatX [60, 47] r3) fun _ r4 =>
            thenX (eatX (bg.take k) r4) fun _ r5 => thenX (eatX [62] (whiteX r5)) fun _ r6 => some (.mk [] sp l ats ks, r6) by rw [HX4.out, h5])
  have HP5 := Lib.hid hp5
  clear h5 hp5 HX4
  go_wp2_with fail
  refine (HMu.out w5 r3 [62] HP5.out).mono ?_
  rintro e w6 ⟨hg6, hx6⟩
  have HG6 := Lib.hid (grown_trans HG5.out hg6)
  have HEl6 := Lib.hid (HEl5.out.step hg6)
  have HSc6 := Lib.hid (HSc5.out.move (Moves.grown hg6 fun k hk _ => ⟨hk, fun e => by injection e with e; exact hk e⟩))
  clear hg6 HG5 HEl5 HSc5 HP5
  rcases h6 : eatX [62] r3 with _ | ⟨u6, r6⟩
  · rw [h6] at hx6
    subst hx6
    exact ⟨rfl, xout_no (by rw [HX5.out, h6]; rfl) HG6.out⟩
  rw [h6] at hx6
  obtain ⟨_, rfl, rfl, hp6⟩ := hx6
  have hl6 := eat_lenX h6
  simp only [List.length_cons, List.length_nil] at hl6
  have HP6 := Lib.hid hp6
  have HX6 := Lib.hid (show ANS = thenX (contX sc2 [] r6) fun ks r3 => thenX (eatX [60, 47] r3) fun _ r4 =>
            thenX (eatX (bg.take k) r4) fun _ r5 => thenX (eatX [62] (whiteX r5)) fun _ r6 => some (.mk [] sp l ats ks, r6) by rw [HX5.out, h6]; rfl)
  clear h6 hp6 HX5
  have h12l := xlt HEl6.out.c12
  have hlo := HEl6.out.lo
  go_wp2_with fail
  refine (HCo.out w6 r6 sv2 sc2 (by omega) (by omega) HP6.out HG6.out HSc6.out).mono ?_
  rintro e w7 ⟨hg7, hx7⟩
  have HG7 := Lib.hid (grown_trans HG6.out hg7)
  have HEl7 := Lib.hid (HEl6.out.step hg7)
  clear hg7 HG6 HEl6 HSc6 HP6 HCo
  rcases h7 : contX sc2 [] r6 with _ | ⟨ks, r7⟩
  · rw [h7] at hx7
    subst hx7
    exact ⟨rfl, xout_no (by rw [HX6.out, h7]; rfl) HG7.out⟩
  rw [h7] at hx7
  obtain ⟨kv, rfl, hkv, hp7⟩ := hx7
  have hkn : NodesP (bel b e4 e12) w7 kv ks := (Kids.nodes hkv).move (Moves.same w7 fun k hk _ => ⟨by omega, by omega, by omega⟩)
  have HX7 := Lib.hid (show ANS = thenX (eatX [60, 47] r7) fun _ r4 =>
            thenX (eatX (bg.take k) r4) fun _ r5 => thenX (eatX [62] (whiteX r5)) fun _ r6 => some (.mk [] sp l ats ks, r6) by rw [HX6.out, h7]; rfl)
  obtain ⟨kA, kc, hkvs⟩ := tab_shape hkn.1
  subst hkvs
  have HEl8 := Lib.hid (HEl7.out.kids hkn)
  have HP8 := Lib.hid (hp7.keep (xgrown_cell w7 e12 4 (.slice kA ks.length kc)) (by intro e; injection e with e; omega))
  have HG8 := Lib.hid (grown_in HG7.out (xgrown_cell w7 e12 4 (.slice kA ks.length kc)) h12)
  have y4 := xat HEl7.out.c12 4
  have yf := xfree HEl7.out.c12 4
  simp only [List.getElem?_toArray, List.getElem?_cons_zero, List.getElem?_cons_succ] at y4
  clear h7 hp7 HX6 hkv hkn HG7 HEl7
  go_wp2_with fail
  generalize w7.setCell ⟨e12, 4, none⟩ (.slice kA ks.length kc) = w8 at *
  clear y4 yf
  refine (HMu.out w8 r7 [60, 47] HP8.out).mono ?_
  rintro e w9 ⟨hg9, hx9⟩
  have HG9 := Lib.hid (grown_trans HG8.out hg9)
  have HEl9 := Lib.hid (HEl8.out.step hg9)
  clear hg9 HG8 HEl8 HP8
  rcases h9 : eatX [60, 47] r7 with _ | ⟨u9, r9⟩
  · rw [h9] at hx9
    subst hx9
    exact ⟨rfl, xout_no (by rw [HX7.out, h9]; rfl) HG9.out⟩
  rw [h9] at hx9
  obtain ⟨_, rfl, rfl, hp9⟩ := hx9
  have HP9 := Lib.hid hp9
  have HX9 := Lib.hid (show ANS = thenX (eatX (bg.take k) r9) fun _ r5 => thenX (eatX [62] (whiteX r5)) fun _ r6 => some (.mk [] sp l ats ks, r6) by rw [HX7.out, h9]; rfl)
  clear h9 hp9 HX7
  go_wp2_with fail
  refine (HMu.out w9 r9 (bg.take k) HP9.out).mono ?_
  rintro e w10 ⟨hg10, hx10⟩
  have HG10 := Lib.hid (grown_trans HG9.out hg10)
  have HEl10 := Lib.hid (HEl9.out.step hg10)
  clear hg10 HG9 HEl9 HP9
  rcases h10 : eatX (bg.take k) r9 with _ | ⟨u10, r10⟩
  · rw [h10] at hx10
    subst hx10
    exact ⟨rfl, xout_no (by rw [HX9.out, h10]; rfl) HG10.out⟩
  rw [h10] at hx10
  obtain ⟨_, rfl, rfl, hp10⟩ := hx10
  have HP10 := Lib.hid hp10
  have HX10 := Lib.hid (show ANS = thenX (eatX [62] (whiteX r10)) fun _ r6 => some (.mk [] sp l ats ks, r6) by rw [HX9.out, h10]; rfl)
  clear h10 hp10 HX9
  go_wp2_with fail
  refine (HW.out w10 r10 HP10.out).mono ?_
  rintro e w11 ⟨hg11, rfl, hp11⟩
  have HG11 := Lib.hid (grown_trans HG10.out hg11)
  have HEl11 := Lib.hid (HEl10.out.step hg11)
  have HP11 := Lib.hid hp11
  clear hg11 hp11 HG10 HEl10 HP10 HW
  generalize decide ((whiteX r10).length < r10.length) = bw
  generalize whiteX r10 = r11 at *
  go_wp2_with fail
  refine (HMu.out w11 r11 [62] HP11.out).mono ?_
  rintro e w12 ⟨hg12, hx12⟩
  have HG12 := Lib.hid (grown_trans HG11.out hg12)
  have HEl12 := Lib.hid (HEl11.out.step hg12)
  clear hg12 HG11 HEl11 HP11 HMu
  rcases h12' : eatX [62] r11 with _ | ⟨u12, r12⟩
  · rw [h12'] at hx12
    subst hx12
    exact ⟨rfl, xout_no (by rw [HX10.out, h12']; rfl) HG12.out⟩
  rw [h12'] at hx12
  obtain ⟨_, rfl, rfl, hp12⟩ := hx12
  have HP12 := Lib.hid hp12
  have HX12 := Lib.hid (show ANS = some (.mk [] sp l ats ks, r12) by rw [HX10.out, h12']; rfl)
  clear h12' hp12 HX10
  go_wp2_with (refine wpList_load_row rfl 46 _ rfl e12 rfl 46 _ _ _ HEl12.out.c12 Tryz.underlying46 rfl (by kernel_rfl) ?_; refine wpList_store_row rfl 46 _ _ rfl e4 _ rfl rfl 46 _ HEl12.out.c4 (by kernel_rfl) rfl (by simp [Value.oneCell']) ?_)
  refine bodyPost_ret (results_cell_row rfl _ _ e4 _ _ _ _ rfl (setRow_heap _ e4 _ _ _ _ HEl12.out.c4) Tryz.underlying46 rfl (by kernel_rfl)) rfl ?_
  exact xout_ok HX12.out (grown_in HG12.out (grown_row _ _ _) hwe) (HEl12.out.out.mono hwe) (HP12.out.keep (grown_row _ _ _) (by intro e; injection e with e; omega))
end Go.Proofs.YtjkiehmjffgnlaaGreatDoor
namespace Go.Proofs.YtjkiehmjffgnlaaGreatDoor
set_option linter.unusedVariables false
set_option linter.unusedSimpArgs false
open Go.RowKit

theorem Kids.lt {B : Nat} {w : World} {v : Value} {ks : List NodeT} (h : Kids B w v ks) : ∀ k, v.ownBlock = some k → B ≤ k ∧ k < w.heap.size := by
  obtain ⟨rows, h1, h2, h3⟩ := h
  exact h1.lt
theorem Kids.shape {B : Nat} {w : World} {v : Value} {ks : List NodeT} (h : Kids B w v ks) : ∃ A n c, v = .slice A n c := by
  obtain ⟨rows, h1, -⟩ := h
  obtain ⟨A, c, h⟩ := ownT_form h1
  exact ⟨A, _, c, h⟩
theorem grown_own {w w1 w2 : World} {b : Nat} {r : Option Nat} (h1 : w.grownBy w1 (some b)) (h2 : w1.grownBy w2 r) (hr : ∀ k, r = some k → w.heap.size ≤ k) : w.grownBy w2 (some b) :=
  ⟨h2.os.trans h1.os, h2.tape.trans h1.tape, h2.output.trans h1.output, Nat.le_trans h1.size h2.size, fun k hk hne => (h2.block k (Nat.lt_of_lt_of_le hk h1.size) (by intro e; have := hr k e.symm; omega)).trans (h1.block k hk hne)⟩
theorem addText_len (ks : List NodeT) (t : List UInt8) : (addText ks t).length ≤ ks.length + 1 := by
  unfold addText
  split
  · omega
  · split
    · rename_i x s a k h
      have := List.length_dropLast (xs := ks)
      simp only [List.length_append, List.length_cons, List.length_nil]
      omega
    · simp
theorem addText_most {ks : List NodeT} {t : List UInt8} {m : Nat} (h : ∀ x ∈ ks, x.text.length ≤ m) : ∀ x ∈ addText ks t, x.text.length ≤ m + t.length := by
  intro x hx
  unfold addText at hx
  split at hx
  · have := h x hx; omega
  · split at hx
    · rename_i y s a k hl
      rcases List.mem_append.1 hx with hx | hx
      · have := h x (List.dropLast_subset _ hx); omega
      · rw [List.mem_singleton.1 hx]
        have := h _ (List.mem_of_getLast? hl)
        simp only [NodeT.text, List.length_append] at this ⊢
        omega
    · rcases List.mem_append.1 hx with hx | hx
      · have := h x hx; omega
      · rw [List.mem_singleton.1 hx]
        show t.length ≤ _
        omega
theorem elem_text {sc : Scope} {s r : List UInt8} {n : NodeT} (h : elemX sc s = some (n, r)) : n.text = [] := by
  rw [elemX_eq] at h
  obtain ⟨_, _, _, h⟩ := thenX_some h
  obtain ⟨_, _, _, h⟩ := thenX_some h
  obtain ⟨_, _, _, h⟩ := thenX_some h
  split at h
  · cases h
  · split at h
    · injection h with h
      injection h with h _
      subst h
      rfl
    · obtain ⟨_, _, _, h⟩ := thenX_some h
      obtain ⟨_, _, _, h⟩ := thenX_some h
      obtain ⟨_, _, _, h⟩ := thenX_some h
      obtain ⟨_, _, _, h⟩ := thenX_some h
      obtain ⟨_, _, _, h⟩ := thenX_some h
      injection h with h
      injection h with h _
      subst h
      rfl
theorem skip_no {s r : List UInt8} (h : skipX s = some (false, r)) : r = s := by
  rw [skipX_eq] at h
  split at h
  · obtain ⟨_, _, _, h⟩ := thenX_some h
    obtain ⟨_, _, _, h⟩ := thenX_some h
    injection h with h
    injection h with h _
    cases h
  · split at h
    · obtain ⟨_, _, _, h⟩ := thenX_some h
      split at h
      · cases h
      · obtain ⟨_, _, _, h⟩ := thenX_some h
        injection h with h
        injection h with h _
        cases h
    · injection h with h
      injection h with _ h
      exact h.symm
/-- one round of content, by what stands ahead. -/
theorem cont_end' {sc : Scope} {ks : List NodeT} {s : List UInt8} (h : [60, 47].isPrefixOf s = true) : contX sc ks s = some (ks, s) := by rw [contX_eq, if_pos h]
theorem cont_none {sc : Scope} {ks : List NodeT} : contX sc ks [] = none := by rw [contX_eq]; rfl
theorem cont_bad {sc : Scope} {ks : List NodeT} {s : List UInt8} (h : [60, 47].isPrefixOf s = false) (hs : skipX s = none) : contX sc ks s = none := by
  rw [contX_eq, if_neg (by simp [h])]
  split
  · rfl
  · rw [hs]
theorem cont_skip {sc : Scope} {ks : List NodeT} {s r : List UInt8} (h : [60, 47].isPrefixOf s = false) (hne : s ≠ []) (hs : skipX s = some (true, r)) : contX sc ks s = contX sc ks r := by
  rw [contX_eq, if_neg (by simp [h]), if_neg hne, hs]
theorem cont_rest {sc : Scope} {ks : List NodeT} {s r : List UInt8} (h : [60, 47].isPrefixOf s = false) (hne : s ≠ []) (hs : skipX s = some (false, r)) : contX sc ks s =
    match eatX wCdata s with
        | some (_, r) => thenX (cutS [93, 93, 62] r) fun t q => contX sc (addText ks (linesX t)) q
        | none =>
          if s.head? = some 60 then thenX (elemX sc s) fun n r => contX sc (ks ++ [n]) r
          else if s.head? = some 38 then thenX (refX s.tail) fun t r => contX sc (addText ks t) r
          else if s.dropWhile (fun c => !stopC c) = [] ∨ hasEnd (s.takeWhile fun c => !stopC c) = true then none
          else contX sc (addText ks (linesX (s.takeWhile fun c => !stopC c))) (s.dropWhile fun c => !stopC c) := by
  rw [contX_eq, if_neg (by simp [h]), if_neg hne, hs]
  rfl
theorem head_ne {x y : UInt8} {q : List UInt8} (h : x ≠ y) : ¬ (x :: q).head? = some y := fun e => h (by injection e)
theorem xcontains_any (s p : List UInt8) (w : World) (hs : s.length ≤ 1000000000) (hE : XEnv w) : Calls Tryz.prog 116 #[.string ⟨s.toArray⟩, .string ⟨p.toArray⟩] w (Ret (.bool (cutS p s).isSome) w) := by
  obtain ⟨m, hm⟩ := hE.env.maxLen
  refine (Tryz.strings_Contains ⟨s.toArray⟩ ⟨p.toArray⟩ m w (by show s.length < _; omega) hm).mono ?_
  rintro e w' ⟨rfl, rfl⟩
  refine ⟨?_, Below.refl _ _⟩
  have h := index_cut p s
  show Ending.returned (.bool (Lib.contains s p)) = _
  unfold Lib.contains
  rcases hc : cutS p s with _ | ⟨a, b⟩
  · rw [hc] at h
    rw [h]
    rfl
  · rw [hc] at h
    rw [h.1]
    simp
end Go.Proofs.YtjkiehmjffgnlaaGreatDoor
namespace Go.Proofs.YtjkiehmjffgnlaaGreatDoor
set_option linter.unusedVariables false
set_option linter.unusedSimpArgs false
open Go.RowKit

theorem BW.move {P Q : Nat → Prop} {w w' : World} {h : Nat} {l : List UInt8} (hb : BW w h l) (m : Moves P Q w w') (hp : P h) : BW w' h l := hb.at m.size (m.block h hp hb.1).2
def TbC (P : Nat → Prop) (w : World) (g : Nat) (x : Option (List UInt8)) (v : Option Value) : Prop := match x with
  | none => v = some (.slice none 0 0)
  | some l => ∃ h cap, v = some (.slice (some ⟨h, 0, none⟩) l.length cap) ∧ l.length ≤ cap ∧ cap ≤ maxLen ∧ P h ∧ h ≠ g ∧ BW w h l
def TbK (P : Nat → Prop) (w : World) (v : Value) (keys : List UInt8) : Prop := ∃ A cap, v = .slice A keys.length cap ∧ keys.length ≤ cap ∧ cap ≤ maxLen ∧ ∀ j c, keys[j]? = some c → ∃ k o, A = some ⟨k, o, none⟩ ∧ P k ∧ k < w.heap.size ∧ w.cell? ⟨k, o + j, none⟩ = some (.string ⟨#[c]⟩)
structure TbA (P : Nat → Prop) (w : World) (g : Nat) (ps : Pairs) (arr : Array Value) (v : Value) : Prop where
  row : w.heap[g]? = some (.cells arr 232 (0, 0))
  size : arr.size = 257
  cell : ∀ c : UInt8, TbC P w g (tblF ps c) arr[c.toNat]?
  last : arr[256]? = some v
def TbP (P : Nat → Prop) (w : World) (g : Nat) (ps : Pairs) : Prop := P g ∧ ∃ arr v, TbA P w g ps arr v ∧ TbK P w v (ps.reverse.map (·.1))
theorem TbC.move {P Q : Nat → Prop} {w w' : World} {g : Nat} {x : Option (List UInt8)} {v : Option Value} (h : TbC P w g x v) (m : Moves P Q w w') : TbC Q w' g x v := by
  unfold TbC at *
  cases x with
  | none => exact h
  | some l =>
    obtain ⟨k, cap, hv, h1, h2, hp, hne, hb⟩ := h
    exact ⟨k, cap, hv, h1, h2, (m.block k hp hb.1).1, hne, hb.move m hp⟩
theorem TbK.move {P Q : Nat → Prop} {w w' : World} {v : Value} {keys : List UInt8} (h : TbK P w v keys) (m : Moves P Q w w') : TbK Q w' v keys := by
  obtain ⟨A, cap, hv, h1, h2, hc⟩ := h
  refine ⟨A, cap, hv, h1, h2, fun j c hj => ?_⟩
  obtain ⟨k, o, hA, hp, hk, hcell⟩ := hc j c hj
  obtain ⟨m1, m2⟩ := m.block k hp hk
  exact ⟨k, o, hA, m1, Nat.lt_of_lt_of_le hk m.size, (cell_eq m2 _).trans hcell⟩
theorem TbP.move {P Q : Nat → Prop} {w w' : World} {g : Nat} {ps : Pairs} (h : TbP P w g ps) (m : Moves P Q w w') : TbP Q w' g ps := by
  obtain ⟨hp, arr, v, ⟨h1, h2, h3, h4⟩, hk⟩ := h
  obtain ⟨m1, m2⟩ := m.block g hp (xlt h1)
  exact ⟨m1, arr, v, ⟨m2.trans h1, h2, fun c => (h3 c).move m, h4⟩, hk.move m⟩
def WdP (P : Nat → Prop) (w : World) (q : Nat) (ps : Pairs) : Prop := P q ∧ q < w.heap.size ∧ ∀ (j : Nat) (p : UInt8 × List UInt8), ps[j]? = some p → w.cell? ⟨q, 2 * j, none⟩ = some (.string ⟨#[p.1]⟩) ∧ w.cell? ⟨q, 2 * j + 1, none⟩ = some (.string ⟨p.2.toArray⟩)
theorem WdP.move {P Q : Nat → Prop} {w w' : World} {q : Nat} {ps : Pairs} (h : WdP P w q ps) (m : Moves P Q w w') : WdP Q w' q ps := by
  obtain ⟨hp, hq, hc⟩ := h
  obtain ⟨m1, m2⟩ := m.block q hp hq
  exact ⟨m1, Nat.lt_of_lt_of_le hq m.size, fun j p hj => ⟨(cell_eq m2 _).trans (hc j p hj).1, (cell_eq m2 _).trans (hc j p hj).2⟩⟩
def BxP (P : Nat → Prop) (w : World) (b : Nat) (ps : Pairs) : Prop := P b ∧
  ((∃ q cap, w.heap[b]? = some (.cells #[.int .u32 0, .int .i32 0, .int .u32 0, .nilIface, .slice (some ⟨q, 0, none⟩) (2 * ps.length) cap] 163 (0, 0)) ∧ 2 * ps.length ≤ cap ∧ cap ≤ maxLen ∧ q ≠ b ∧ WdP P w q ps) ∨
   (∃ g, w.heap[b]? = some (.cells #[.int .u32 1, .int .i32 0, .int .u32 0, .iface 233 (.pointer (some ⟨g, 0, none⟩)), .slice none 0 0] 163 (0, 0)) ∧ g ≠ b ∧ TbP P w g ps))
theorem BxP.lt {P : Nat → Prop} {w : World} {b : Nat} {ps : Pairs} (h : BxP P w b ps) : b < w.heap.size := by
  rcases h.2 with ⟨q, cap, hb, -⟩ | ⟨g, hb, -⟩
  · exact xlt hb
  · exact xlt hb
theorem BxP.move {P Q : Nat → Prop} {w w' : World} {b : Nat} {ps : Pairs} (h : BxP P w b ps) (m : Moves P Q w w') : BxP Q w' b ps := by
  obtain ⟨hp, h⟩ := h
  rcases h with ⟨q, cap, hb, h1, h2, hne, hw⟩ | ⟨g, hb, hne, ht⟩
  · obtain ⟨m1, m2⟩ := m.block b hp (xlt hb)
    exact ⟨m1, .inl ⟨q, cap, m2.trans hb, h1, h2, hne, hw.move m⟩⟩
  · obtain ⟨m1, m2⟩ := m.block b hp (xlt hb)
    exact ⟨m1, .inr ⟨g, m2.trans hb, hne, ht.move m⟩⟩
theorem tblF_cons (p : UInt8 × List UInt8) (r : Pairs) (c : UInt8) : tblF (p :: r) c = if p.1 = c then some p.2 else tblF r c := rfl
structure WideP (ps : Pairs) : Prop where
  good : GoodQ ps
  many : 2 ≤ ps.length
  two : ∀ p ∈ ps, 2 ≤ p.2.length
theorem wideT_P : WideP psT := ⟨goodT_P, by decide, by decide⟩
theorem wideV_P : WideP psV := ⟨goodV_P, by decide, by decide⟩
end Go.Proofs.YtjkiehmjffgnlaaGreatDoor

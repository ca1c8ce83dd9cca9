/-
  Parts of the walks and plain laws of layer 10, joined: AskCl. Conditions: as each theorem states them.
-/
import Derived.Test.YtopogglcnnjdlaaGreatDoorXmlZ39
import Derived.Deep.DrawnRows
/-! AskCl -/
namespace Go.Proofs.YtopogglcnnjdlaaGreatDoor
set_option linter.unusedVariables false
set_option linter.unusedSimpArgs false
open Go.RowKit

theorem chg_got {F got : List ChgT} {ANS : Except Int (List ChgT)} {er : Int} (hA : ANS = if F.isEmpty then .error 50 else if 32 < F.length then .error 4 else .ok F) (hg : got = okOr [] ANS) (he : er = errX ANS) :
    (F.length = 0 ∧ got = [] ∧ er = 50) ∨ (32 < F.length ∧ got = [] ∧ er = 4) ∨ (0 < F.length ∧ F.length ≤ 32 ∧ got = F ∧ er = 0) := by
  cases hF : F with
  | nil => rw [hF] at hA; subst hA; exact .inl ⟨rfl, hg, he⟩
  | cons c F' =>
    rw [hF] at hA
    rw [show (c :: F').isEmpty = false from rfl, if_neg (by decide)] at hA
    by_cases h : 32 < (c :: F').length
    · rw [if_pos h] at hA; subst hA; exact .inr (.inl ⟨h, hg, he⟩)
    · rw [if_neg h] at hA; subst hA; exact .inr (.inr ⟨by simp, by omega, hg, he⟩)
set_option maxHeartbeats 64000000 in
set_option maxRecDepth 100000 in
set_option linter.unusedSimpArgs false in
theorem law_changes (l : List ChgT) (v : Value) (z : NodeT) (zaA zkA : Option Addr) (zac zkc : Nat) (w : World) (hv : Tab 6 (ChgR anyB) w v l) (hz : TreeV w z zaA zac zkA zkc) (hll : l.length ≤ 400000) (hbk : (l.map fun c => bulkT c.value).sum ≤ 1100000) (hzb : bulkT z ≤ 1100000) (hE : XEnv w) :
    Calls Tryz.prog 3 #[v, .agg #[.string ⟨z.text.toArray⟩, .string ⟨z.space.toArray⟩, .string ⟨z.name.toArray⟩, .slice zaA z.attrs.length zac, .slice zkA z.kids.length zkc]] w (Ret (.bool true) w) := by
  obtain ⟨E, hEE⟩ : ∃ E, E = Ret (.bool true) w := ⟨_, rfl⟩
  rw [← hEE]
  have HEE := Lib.hid hEE
  have HE := Lib.hid hE
  obtain ⟨vA, vc, rfl⟩ := tab_shape hv
  obtain ⟨-, hvc, hvm, hvk⟩ := chg_at hv
  unfold maxLen at hvm
  have HVk := Lib.hid hvk
  have hbz : Below w.heap.size w (w.alloc (.cells #[.string ⟨z.text.toArray⟩, .string ⟨z.space.toArray⟩, .string ⟨z.name.toArray⟩, .slice zaA z.attrs.length zac, .slice zkA z.kids.length zkc] 26 (0, 0))) := (Below.refl _ _).alloc (Nat.le_refl _) _
  have HZ0 := Lib.hid (heap_alloc_new w (.cells #[.string ⟨z.text.toArray⟩, .string ⟨z.space.toArray⟩, .string ⟨z.name.toArray⟩, .slice zaA z.attrs.length zac, .slice zkA z.kids.length zkc] 26 (0, 0)))
  have HFx := Lib.hid (afixed_any _ (hE.below hbz))
  have HBz := Lib.hid hbz
  have HTz := Lib.hid hz
  have HVt := Lib.hid hv
  clear hEE hE hv hvk hbz hz
  go_enter Tryz.func3, Tryz.ntmps3
  go_wp2_with fail
  refine HFx.out.mono ?_
  rintro e w1 ⟨rfl, hb1⟩
  have HB1 := Lib.hid (HBz.out.trans (hb1.mono HBz.out.size))
  have HZ1 := Lib.hid ((hb1.block _ (xlt HZ0.out)).trans HZ0.out)
  clear hb1 HFx HZ0 HBz
  obtain ⟨hb2, -, hq2⟩ := two_alloc w1 (.cells #[.string ⟨#[]⟩, .string ⟨#[68, 65, 86, 58]⟩, .string ⟨#[112, 114, 111, 112, 101, 114, 116, 121, 117, 112, 100, 97, 116, 101]⟩, .slice none 0 0, .slice none 0 0] 26 (0, 0)) (.cells #[.string ⟨#[]⟩, .string ⟨#[68, 65, 86, 58]⟩, .string ⟨#[112, 114, 111, 112, 101, 114, 116, 121, 117, 112, 100, 97, 116, 101]⟩, .slice none 0 0, .slice none 0 0] 26 (0, 0))
  have hz2 : ((w1.alloc (.cells #[.string ⟨#[]⟩, .string ⟨#[68, 65, 86, 58]⟩, .string ⟨#[112, 114, 111, 112, 101, 114, 116, 121, 117, 112, 100, 97, 116, 101]⟩, .slice none 0 0, .slice none 0 0] 26 (0, 0))).alloc (.cells #[.string ⟨#[]⟩, .string ⟨#[68, 65, 86, 58]⟩, .string ⟨#[112, 114, 111, 112, 101, 114, 116, 121, 117, 112, 100, 97, 116, 101]⟩, .slice none 0 0, .slice none 0 0] 26 (0, 0))).heap.size = w1.heap.size + 1 + 1 := (World.size_alloc ..).trans (by rw [World.size_alloc])
  have HB2 := Lib.hid (HB1.out.trans (hb2.mono HB1.out.size))
  have HQ2 := Lib.hid hq2
  have HZ2 := Lib.hid ((hb2.block _ (xlt HZ1.out)).trans HZ1.out)
  have hzw1 := xlt HZ1.out
  clear hb2 hq2
  go_upto_region 4 with (go_at_call 13; refine (adav_ex _ _ _ _ _).mono ?_; rintro e w4 ⟨rfl, rfl⟩)
  generalize (w1.alloc (.cells #[.string ⟨#[]⟩, .string ⟨#[68, 65, 86, 58]⟩, .string ⟨#[112, 114, 111, 112, 101, 114, 116, 121, 117, 112, 100, 97, 116, 101]⟩, .slice none 0 0, .slice none 0 0] 26 (0, 0))).alloc (.cells #[.string ⟨#[]⟩, .string ⟨#[68, 65, 86, 58]⟩, .string ⟨#[112, 114, 111, 112, 101, 114, 116, 121, 117, 112, 100, 97, 116, 101]⟩, .slice none 0 0, .slice none 0 0] 26 (0, 0)) = w2 at *
  obtain ⟨q, hq⟩ : ∃ q, q = w1.heap.size + 1 := ⟨_, rfl⟩
  obtain ⟨qz, hqz⟩ : ∃ q, q = w.heap.size := ⟨_, rfl⟩
  have hqlt : q < w2.heap.size := by omega
  have hqw : w.heap.size ≤ q := by have := HB1.out.size; omega
  have hqzq : qz < q := by omega
  rw [← hq] at HQ2 ⊢
  rw [← hqz] at HZ2 ⊢
  clear hq hz2 HB1 HZ1 hzw1
  have HQZ := Lib.hid hqz
  clear hqz
  go_wp2_with fail
  go_loopg [6] l.length (fun gk v6 wr => ∃ (i : Nat) (kv : Value), i + gk = l.length ∧ v6 = .int .i64 i ∧ Hid (ChS w2 q ((l.take i).flatMap (chgTree z)) wr kv))
  case atStart => exact ⟨0, .slice none 0 0, by omega, rfl, Lib.hid ⟨HQ2.out, RowG.nil _ _ _ _ _ _, Below.refl _ _, Nat.le_refl _, hqlt⟩⟩
  case round =>
    obtain ⟨i, kv, hig, rfl, HS⟩ := hrel
    have HBr := Lib.hid (HB2.out.trans (HS.out.fr.mono hqw))
    have HZr := Lib.hid ((HS.out.fr.block _ hqzq).trans HZ2.out)
    obtain ⟨rA, rc, hkv, hrc1, hrc2⟩ := HS.out.kids.form
    unfold maxLen at hrc2
    subst hkv
    rcases hd : l.drop i with _ | ⟨c, rest⟩
    · have hi2 : i = l.length := by have := drop_nil hd; omega
      subst hi2
      clear hd
      rw [List.take_length] at HS hrc1
      have hT : SmallN 2000000 (davN wUpdate (l.flatMap (chgTree z))) ∧ (formN [] (davN wUpdate (l.flatMap (chgTree z)))).length ≤ 90000000000000 := chg_small hll hbk hzb
      obtain ⟨ks, hks⟩ : ∃ ks, ks = l.flatMap (chgTree z) := ⟨_, rfl⟩
      have HKs := Lib.hid (show davN wUpdate ks = chgRoot z l by rw [hks]; rfl)
      rw [← hks] at HS hrc1 hT
      clear hks
      have HWa := Lib.hid (awrite_dav wUpdate ks rA _ rc wr (TabP.any (HS.out.kids.tab mov_node)) hT (HE.out.below HBr.out))
      have HT := Lib.hid hT
      have y0 := xat HS.out.at_ 0
      have y1 := xat HS.out.at_ 1
      have y2 := xat HS.out.at_ 2
      have y3 := xat HS.out.at_ 3
      have y4 := xat HS.out.at_ 4
      simp only [List.getElem?_toArray, List.getElem?_cons_zero, List.getElem?_cons_succ] at y0 y1 y2 y3 y4
      obtain ⟨X, hX⟩ : ∃ X, X = writeX (davN wUpdate ks) := ⟨_, rfl⟩
      rw [← hX] at HWa
      have HX := Lib.hid hX
      clear hX hT
      go_wp2_with fail
      refine HWa.out.mono ?_
      rintro e w10 ⟨hb10, rfl⟩
      have HB10 := Lib.hid (HBr.out.trans (hb10.mono HBr.out.size))
      clear hb10 HWa y0 y1 y2 y3 y4
      rcases X with k1 | s
      · have hk1 := write_err HX.out.symm
        rw [show errX (Except.error k1 : Except Int (List UInt8)) = k1 from rfl]
        clear HX
        generalize okOr [] (Except.error k1 : Except Int (List UInt8)) = S2 at *
        rcases hk1 with rfl | rfl
        all_goals
          go_wp2
          rw [HEE.out]
          exact ⟨rfl, HB10.out⟩
      rw [show errX (Except.ok s : Except Int (List UInt8)) = 0 from rfl, show okOr [] (Except.ok s : Except Int (List UInt8)) = s from rfl]
      obtain ⟨hp1, -, -, hl1⟩ := xread_back HX.out.symm
      have hR := chg_read (noise := z) (l := l) (by rw [← HKs.out]; exact HX.out.symm)
      have HCh := Lib.hid (achanges_any s w10 (by omega) (HE.out.below HB10.out))
      rw [hR] at HCh
      obtain ⟨F, hF⟩ : ∃ F, F = l.filter fun c => !decide (c.value.name = []) := ⟨_, rfl⟩
      rw [← hF] at HCh
      obtain ⟨ANS, hA⟩ : ∃ A, A = (if F.isEmpty then .error 50 else if 32 < F.length then .error 4 else .ok F : Except Int (List ChgT)) := ⟨_, rfl⟩
      rw [← hA] at HCh
      obtain ⟨got, hgot⟩ : ∃ g, g = okOr [] ANS := ⟨_, rfl⟩
      obtain ⟨er, her⟩ : ∃ g, g = errX ANS := ⟨_, rfl⟩
      have hFl : F.length ≤ l.length := by rw [hF]; exact List.length_filter_le _ _
      have HG := Lib.hid (chg_got hA hgot her)
      have HF := Lib.hid hF
      have HGo := Lib.hid hgot
      have HEr := Lib.hid her
      clear hF hA hgot her hR HX hp1 hl1 HTz HS HZr HBr hrc1 hrc2
      go_wp2_with fail
      refine HCh.out.mono ?_
      rintro e w11 ⟨hb11, cA, cc, rfl, ht11⟩
      rw [← HGo.out] at ht11 ⊢
      rw [← HEr.out]
      have HB11 := Lib.hid (HB10.out.trans (hb11.mono HB10.out.size))
      obtain ⟨-, hgc, hgm, hgk⟩ := chg_at ht11
      unfold maxLen at hgm
      have HGk := Lib.hid hgk
      have hgl : got.length ≤ l.length := by rcases HG.out with ⟨_, h, _⟩ | ⟨_, h, _⟩ | ⟨_, _, h, _⟩ <;> rw [h] <;> first | exact hFl | exact Nat.zero_le _
      clear hb11 ht11 hgk HCh HB10 HGo HEr
      go_wp2_with fail
      go_loopg [12, 13] l.length (fun gk v12 v13 wr => ∃ (i n : Nat), i + gk = l.length ∧ v13 = .int .i64 i ∧ v12 = .int .i64 n ∧ n ≤ i ∧ Hid (n = ((l.take i).filter fun c => !decide (c.value.name = [])).length) ∧ Hid (Below w11.heap.size w11 wr))
      case atStart => exact ⟨0, 0, by omega, rfl, rfl, Nat.le_refl _, Lib.hid rfl, Lib.hid (Below.refl _ _)⟩
      case round =>
        obtain ⟨i, n, hig2, rfl, rfl, hni, HNn, HBr⟩ := hrel
        have HB12 := Lib.hid (HB11.out.trans (HBr.out.mono HB11.out.size))
        rcases hd : l.drop i with _ | ⟨c, rest⟩
        · have hi2 : i = l.length := by have := drop_nil hd; omega
          subst hi2
          have hnF : n = F.length := by rw [HNn.out, List.take_length, HF.out]
          clear hd HNn HF HVt HVk HGk
          rcases HG.out with ⟨h1, rfl, rfl⟩ | ⟨h1, rfl, rfl⟩ | ⟨h1, h2, rfl, rfl⟩
          · obtain rfl : n = 0 := by omega
            clear hnF h1 HG
            go_wp2
            rw [HEE.out]
            exact ⟨rfl, HB12.out⟩
          · have i1 : ¬ (n : Int) = 0 := by omega
            have i2 : (n : Int) > 32 := by omega
            have i3 : (32 : Int) < n := by omega
            clear hnF h1 HG
            go_wp2
            rw [HEE.out]
            exact ⟨rfl, HB12.out⟩
          · subst hnF
            have i1 : ¬ (got.length : Int) = 0 := by omega
            have i3 : ¬ (32 : Int) < got.length := by omega
            clear h1 h2 HG
            go_wp2
            rw [HEE.out]
            exact ⟨rfl, HB12.out⟩
        · obtain ⟨hlt, hx, hr⟩ := drop_consA hd
          obtain ⟨bn, on, aA, ac, kA, kc, rfl, hbl, e0, e1, e2, e3, e4, e5, hn⟩ := HVk.out i c hx
          have k1 : (i : Int) < l.length := by omega
          have k2 : (0 : Int) ≤ i := by omega
          have d0 := (HB12.out.cell (p := ⟨bn, on + i * 6, none⟩) hbl).trans e0
          have d1 := (HB12.out.cell (p := ⟨bn, on + i * 6 + 1, none⟩) hbl).trans e1
          have d2 := (HB12.out.cell (p := ⟨bn, on + i * 6 + 2, none⟩) hbl).trans e2
          have d3 := (HB12.out.cell (p := ⟨bn, on + i * 6 + 3, none⟩) hbl).trans e3
          have d4 := (HB12.out.cell (p := ⟨bn, on + i * 6 + 4, none⟩) hbl).trans e4
          have d5 := (HB12.out.cell (p := ⟨bn, on + i * 6 + 5, none⟩) hbl).trans e5
          clear e0 e1 e2 e3 e4 e5
          have HNx := Lib.hid (filter_next (fun c : ChgT => !decide (c.value.name = [])) l i c hx)
          by_cases hnm : c.value.name = []
          · have hn1 : (c.value.name == []) = true := by rw [hnm]; rfl
            have hn2 : c.value.name.isEmpty = true := by rw [hnm]; rfl
            have HN2 := Lib.hid (show n = ((l.take (i + 1)).filter fun c => !decide (c.value.name = [])).length by rw [HNx.out, ← HNn.out, hnm]; rfl)
            clear hnm hd hx hr hn HNx HNn
            go_wp2
            go_roundg (gk - 1)
            case measure => omega
            case rel => exact ⟨i + 1, n, by omega, by go_num, rfl, by omega, HN2, HBr⟩
          · have hn1 : (c.value.name == []) = false := beq_eq_false_iff_ne.2 hnm
            have hn2 : c.value.name.isEmpty = false := by cases h : c.value.name with | nil => exact absurd h hnm | cons => rfl
            have hpc : (!decide (c.value.name = [])) = true := by rw [decide_eq_false hnm]; rfl
            have HN2 := Lib.hid (show n + 1 = ((l.take (i + 1)).filter fun c => !decide (c.value.name = [])).length by rw [HNx.out, ← HNn.out, if_pos hpc])
            have HFa := Lib.hid (show F[n]? = some c by rw [HF.out, HNn.out]; exact filter_at (fun c : ChgT => !decide (c.value.name = [])) l i c hx hpc)
            clear hnm hd hx hr HNx HNn hpc
            have HGt := Lib.hid (show got = [] ∨ F = got by rcases HG.out with ⟨_, h, _⟩ | ⟨_, h, _⟩ | ⟨_, _, h, _⟩ <;> first | exact .inl h | exact .inr h.symm)
            rcases HGt.out with hg0 | hg1
            · subst hg0
              have i1 : decide ((n : Int) < 0) = false := decide_eq_false (by omega)
              have i2 : ((n : Int) < 0) = False := eq_false (by omega)
              have HBD := Lib.hid (fun k => below_draws HBr.out k)
              clear HG HGt HGk hgc hgl HFa hn
              go_wp2_with fail
              go_quiet (fail)
              go_wp2
              go_roundg (gk - 1)
              case measure => omega
              case rel => exact ⟨i + 1, n + 1, by omega, by go_num, by go_num, by omega, HN2, Lib.hid (HBD.out _)⟩
            · subst hg1
              have hng := (List.getElem?_eq_some_iff.1 HFa.out).1
              obtain ⟨b2, o2, aA2, ac2, kA2, kc2, rfl, hbl2, f0, f1, f2, f3, f4, f5, hn3⟩ := HGk.out n c HFa.out
              have i1 : (n : Int) < F.length := by omega
              have i2 : (0 : Int) ≤ n := by omega
              have g0 := (HBr.out.cell (p := ⟨b2, o2 + n * 6, none⟩) hbl2).trans f0
              have g1 := (HBr.out.cell (p := ⟨b2, o2 + n * 6 + 1, none⟩) hbl2).trans f1
              have g2 := (HBr.out.cell (p := ⟨b2, o2 + n * 6 + 2, none⟩) hbl2).trans f2
              have g3 := (HBr.out.cell (p := ⟨b2, o2 + n * 6 + 3, none⟩) hbl2).trans f3
              have g4 := (HBr.out.cell (p := ⟨b2, o2 + n * 6 + 4, none⟩) hbl2).trans f4
              have g5 := (HBr.out.cell (p := ⟨b2, o2 + n * 6 + 5, none⟩) hbl2).trans f5
              obtain ⟨rm, x⟩ := c
              simp only at d0 d1 d2 d3 d4 d5 g0 g1 g2 g3 g4 g5 hn1 hn2 hn hn3
              clear f0 f1 f2 f3 f4 f5 HG HGt HGk hgc hgl HFa hng
              go_wp2_with fail
              have hS0 : wr.drew.cell? ⟨bn, on + i * 6, none⟩ = some (.bool rm) ∧ wr.drew.cell? ⟨bn, on + i * 6 + 1, none⟩ = some (.string ⟨x.text.toArray⟩) ∧ wr.drew.cell? ⟨bn, on + i * 6 + 1 + 1, none⟩ = some (.string ⟨x.space.toArray⟩) ∧ wr.drew.cell? ⟨bn, on + i * 6 + 1 + 2, none⟩ = some (.string ⟨x.name.toArray⟩) ∧ wr.drew.cell? ⟨bn, on + i * 6 + 1 + 3, none⟩ = some (.slice aA x.attrs.length ac) ∧ wr.drew.cell? ⟨bn, on + i * 6 + 1 + 4, none⟩ = some (.slice kA x.kids.length kc) ∧ wr.drew.cell? ⟨b2, o2 + n * 6, none⟩ = some (.bool rm) ∧ wr.drew.cell? ⟨b2, o2 + n * 6 + 1, none⟩ = some (.string ⟨x.text.toArray⟩) ∧ wr.drew.cell? ⟨b2, o2 + n * 6 + 1 + 1, none⟩ = some (.string ⟨x.space.toArray⟩) ∧ wr.drew.cell? ⟨b2, o2 + n * 6 + 1 + 2, none⟩ = some (.string ⟨x.name.toArray⟩) ∧ wr.drew.cell? ⟨b2, o2 + n * 6 + 1 + 3, none⟩ = some (.slice aA2 x.attrs.length ac2) ∧ wr.drew.cell? ⟨b2, o2 + n * 6 + 1 + 4, none⟩ = some (.slice kA2 x.kids.length kc2) ∧ Below w11.heap.size w11 wr.drew := ⟨d0, d1, d2, d3, d4, d5, g0, g1, g2, g3, g4, g5, below_draws HBr.out 1⟩
              have Hk := Lib.hid (fun (wx wy : World) (h : wx.cell? ⟨bn, on + i * 6, none⟩ = some (.bool rm) ∧ wx.cell? ⟨bn, on + i * 6 + 1, none⟩ = some (.string ⟨x.text.toArray⟩) ∧ wx.cell? ⟨bn, on + i * 6 + 1 + 1, none⟩ = some (.string ⟨x.space.toArray⟩) ∧ wx.cell? ⟨bn, on + i * 6 + 1 + 2, none⟩ = some (.string ⟨x.name.toArray⟩) ∧ wx.cell? ⟨bn, on + i * 6 + 1 + 3, none⟩ = some (.slice aA x.attrs.length ac) ∧ wx.cell? ⟨bn, on + i * 6 + 1 + 4, none⟩ = some (.slice kA x.kids.length kc) ∧ wx.cell? ⟨b2, o2 + n * 6, none⟩ = some (.bool rm) ∧ wx.cell? ⟨b2, o2 + n * 6 + 1, none⟩ = some (.string ⟨x.text.toArray⟩) ∧ wx.cell? ⟨b2, o2 + n * 6 + 1 + 1, none⟩ = some (.string ⟨x.space.toArray⟩) ∧ wx.cell? ⟨b2, o2 + n * 6 + 1 + 2, none⟩ = some (.string ⟨x.name.toArray⟩) ∧ wx.cell? ⟨b2, o2 + n * 6 + 1 + 3, none⟩ = some (.slice aA2 x.attrs.length ac2) ∧ wx.cell? ⟨b2, o2 + n * 6 + 1 + 4, none⟩ = some (.slice kA2 x.kids.length kc2) ∧ Below w11.heap.size w11 wx) (hb : Below wx.heap.size wx wy) => (⟨(hb.cell (cell_lt h.1)).trans h.1, (hb.cell (cell_lt h.2.1)).trans h.2.1, (hb.cell (cell_lt h.2.2.1)).trans h.2.2.1, (hb.cell (cell_lt h.2.2.2.1)).trans h.2.2.2.1, (hb.cell (cell_lt h.2.2.2.2.1)).trans h.2.2.2.2.1, (hb.cell (cell_lt h.2.2.2.2.2.1)).trans h.2.2.2.2.2.1, (hb.cell (cell_lt h.2.2.2.2.2.2.1)).trans h.2.2.2.2.2.2.1, (hb.cell (cell_lt h.2.2.2.2.2.2.2.1)).trans h.2.2.2.2.2.2.2.1, (hb.cell (cell_lt h.2.2.2.2.2.2.2.2.1)).trans h.2.2.2.2.2.2.2.2.1, (hb.cell (cell_lt h.2.2.2.2.2.2.2.2.2.1)).trans h.2.2.2.2.2.2.2.2.2.1, (hb.cell (cell_lt h.2.2.2.2.2.2.2.2.2.2.1)).trans h.2.2.2.2.2.2.2.2.2.2.1, (hb.cell (cell_lt h.2.2.2.2.2.2.2.2.2.2.2.1)).trans h.2.2.2.2.2.2.2.2.2.2.2.1, h.2.2.2.2.2.2.2.2.2.2.2.2.trans (hb.mono (h.2.2.2.2.2.2.2.2.2.2.2.2).size)⟩ : wy.cell? ⟨bn, on + i * 6, none⟩ = some (.bool rm) ∧ wy.cell? ⟨bn, on + i * 6 + 1, none⟩ = some (.string ⟨x.text.toArray⟩) ∧ wy.cell? ⟨bn, on + i * 6 + 1 + 1, none⟩ = some (.string ⟨x.space.toArray⟩) ∧ wy.cell? ⟨bn, on + i * 6 + 1 + 2, none⟩ = some (.string ⟨x.name.toArray⟩) ∧ wy.cell? ⟨bn, on + i * 6 + 1 + 3, none⟩ = some (.slice aA x.attrs.length ac) ∧ wy.cell? ⟨bn, on + i * 6 + 1 + 4, none⟩ = some (.slice kA x.kids.length kc) ∧ wy.cell? ⟨b2, o2 + n * 6, none⟩ = some (.bool rm) ∧ wy.cell? ⟨b2, o2 + n * 6 + 1, none⟩ = some (.string ⟨x.text.toArray⟩) ∧ wy.cell? ⟨b2, o2 + n * 6 + 1 + 1, none⟩ = some (.string ⟨x.space.toArray⟩) ∧ wy.cell? ⟨b2, o2 + n * 6 + 1 + 2, none⟩ = some (.string ⟨x.name.toArray⟩) ∧ wy.cell? ⟨b2, o2 + n * 6 + 1 + 3, none⟩ = some (.slice aA2 x.attrs.length ac2) ∧ wy.cell? ⟨b2, o2 + n * 6 + 1 + 4, none⟩ = some (.slice kA2 x.kids.length kc2) ∧ Below w11.heap.size w11 wy))
              have HB := Lib.hid (fun (wx : World) (h : wx.cell? ⟨bn, on + i * 6, none⟩ = some (.bool rm) ∧ wx.cell? ⟨bn, on + i * 6 + 1, none⟩ = some (.string ⟨x.text.toArray⟩) ∧ wx.cell? ⟨bn, on + i * 6 + 1 + 1, none⟩ = some (.string ⟨x.space.toArray⟩) ∧ wx.cell? ⟨bn, on + i * 6 + 1 + 2, none⟩ = some (.string ⟨x.name.toArray⟩) ∧ wx.cell? ⟨bn, on + i * 6 + 1 + 3, none⟩ = some (.slice aA x.attrs.length ac) ∧ wx.cell? ⟨bn, on + i * 6 + 1 + 4, none⟩ = some (.slice kA x.kids.length kc) ∧ wx.cell? ⟨b2, o2 + n * 6, none⟩ = some (.bool rm) ∧ wx.cell? ⟨b2, o2 + n * 6 + 1, none⟩ = some (.string ⟨x.text.toArray⟩) ∧ wx.cell? ⟨b2, o2 + n * 6 + 1 + 1, none⟩ = some (.string ⟨x.space.toArray⟩) ∧ wx.cell? ⟨b2, o2 + n * 6 + 1 + 2, none⟩ = some (.string ⟨x.name.toArray⟩) ∧ wx.cell? ⟨b2, o2 + n * 6 + 1 + 3, none⟩ = some (.slice aA2 x.attrs.length ac2) ∧ wx.cell? ⟨b2, o2 + n * 6 + 1 + 4, none⟩ = some (.slice kA2 x.kids.length kc2) ∧ Below w11.heap.size w11 wx) => h.2.2.2.2.2.2.2.2.2.2.2.2)
              have HSm := Lib.hid (fun (wx : World) (hb : Below w11.heap.size w11 wx) => xsame_any hn3 _ (hn.under HB11.out) wx hb)
              clear d0 d1 d2 d3 d4 d5 g0 g1 g2 g3 g4 g5
              go_region_held3 (fun wx => wx.cell? ⟨bn, on + i * 6, none⟩ = some (.bool rm) ∧ wx.cell? ⟨bn, on + i * 6 + 1, none⟩ = some (.string ⟨x.text.toArray⟩) ∧ wx.cell? ⟨bn, on + i * 6 + 1 + 1, none⟩ = some (.string ⟨x.space.toArray⟩) ∧ wx.cell? ⟨bn, on + i * 6 + 1 + 2, none⟩ = some (.string ⟨x.name.toArray⟩) ∧ wx.cell? ⟨bn, on + i * 6 + 1 + 3, none⟩ = some (.slice aA x.attrs.length ac) ∧ wx.cell? ⟨bn, on + i * 6 + 1 + 4, none⟩ = some (.slice kA x.kids.length kc) ∧ wx.cell? ⟨b2, o2 + n * 6, none⟩ = some (.bool rm) ∧ wx.cell? ⟨b2, o2 + n * 6 + 1, none⟩ = some (.string ⟨x.text.toArray⟩) ∧ wx.cell? ⟨b2, o2 + n * 6 + 1 + 1, none⟩ = some (.string ⟨x.space.toArray⟩) ∧ wx.cell? ⟨b2, o2 + n * 6 + 1 + 2, none⟩ = some (.string ⟨x.name.toArray⟩) ∧ wx.cell? ⟨b2, o2 + n * 6 + 1 + 3, none⟩ = some (.slice aA2 x.attrs.length ac2) ∧ wx.cell? ⟨b2, o2 + n * 6 + 1 + 4, none⟩ = some (.slice kA2 x.kids.length kc2) ∧ Below w11.heap.size w11 wx)
                (first | exact hS0 | assumption | exact Hk.out _ _ (by assumption) (by assumption))
                (first | (go_at_call 16; refine (HSm.out _ (HB.out _ (by first | exact hS0 | assumption))).mono ?_; rintro e w6 ⟨rfl, hb6⟩))
              have HB6 := Lib.hid (HB.out _ (by assumption))
              clear hS0 hb6 HSm Hk HB
              go_wp2
              go_roundg (gk - 1)
              case measure => omega
              case rel => exact ⟨i + 1, n + 1, by omega, by go_num, by go_num, by omega, HN2, HB6⟩
    · obtain ⟨hlt, hx, hr⟩ := drop_consA hd
      obtain ⟨bn, on, aA, ac, kA, kc, rfl, hbl, e0, e1, e2, e3, e4, e5, hn⟩ := HVk.out i c hx
      have k1 : (i : Int) < l.length := by omega
      have k2 : (0 : Int) ≤ i := by omega
      have HTk := Lib.hid (show (l.take (i + 1)).flatMap (chgTree z) = (l.take i).flatMap (chgTree z) ++ chgTree z c by rw [List.take_add_one, hx, List.flatMap_append]; simp)
      have hks : ((l.take i).flatMap (chgTree z)).length ≤ 2 * i := by
        have h2 := tree_len z (l.take i)
        rw [List.length_take] at h2
        omega
      have HN := Lib.hid hn
      have d0 := (HBr.out.cell (p := ⟨bn, on + i * 6, none⟩) hbl).trans e0
      have HD := Lib.hid (And.intro e1 (And.intro e2 (And.intro e3 (And.intro e4 e5))))
      have hbn := hbl
      clear hd hx hr e1 e2 e3 e4 e5 hn
      obtain ⟨ks, hkse⟩ : ∃ ks, ks = (l.take i).flatMap (chgTree z) := ⟨_, rfl⟩
      rw [← hkse] at HS HTk hks hrc1
      clear hkse e0
      obtain ⟨rm, x⟩ := c
      simp only at HD HN d0
      go_upto_if 27 with (fail)
      go_cut [7] (fun v wc => v = .string ⟨(chgName ⟨rm, x⟩).toArray⟩ ∧ wc = wr)
      case first =>
        cases rm
        all_goals
          go_wp2
          go_meet
          exact ⟨rfl, rfl⟩
      case rest =>
      obtain ⟨rfl, hwc⟩ := hcut
      subst hwc
      obtain ⟨w3, hw3⟩ : ∃ w3, w3 = wc := ⟨_, rfl⟩
      subst hw3
      clear d0
      go_upto_region 10 with (fail)
      go_cut [] (fun wc => ∃ kv2, Hid (ChS w2 q (ks ++ [davN (chgName ⟨rm, x⟩) [davN wOther [], davN wProp [x]]]) wc kv2))
      case first =>
        have hol := HS.out.kids.lt
        have hqs : q < w3.heap.size := xlt HS.out.at_
        obtain ⟨e1, e2, e3, e4, e5⟩ := HD.out
        have hS0 : (fun wx : World => wx.cell? ⟨q, 4, none⟩ = some (.slice rA ks.length rc) ∧ wx.cell? ⟨bn, on + i * 6 + 1, none⟩ = some (.string ⟨x.text.toArray⟩) ∧ wx.cell? ⟨bn, on + i * 6 + 2, none⟩ = some (.string ⟨x.space.toArray⟩) ∧ wx.cell? ⟨bn, on + i * 6 + 3, none⟩ = some (.string ⟨x.name.toArray⟩) ∧ wx.cell? ⟨bn, on + i * 6 + 4, none⟩ = some (.slice aA x.attrs.length ac) ∧ wx.cell? ⟨bn, on + i * 6 + 5, none⟩ = some (.slice kA x.kids.length kc)) w3.drew := ⟨xat HS.out.at_ 4, (HBr.out.cell (p := ⟨bn, on + i * 6 + 1, none⟩) hbn).trans e1, (HBr.out.cell (p := ⟨bn, on + i * 6 + 2, none⟩) hbn).trans e2, (HBr.out.cell (p := ⟨bn, on + i * 6 + 3, none⟩) hbn).trans e3, (HBr.out.cell (p := ⟨bn, on + i * 6 + 4, none⟩) hbn).trans e4, (HBr.out.cell (p := ⟨bn, on + i * 6 + 5, none⟩) hbn).trans e5⟩
        simp only at hS0
        have Hk := Lib.hid (fun (wx : World) (ob : Obj) (h : wx.drew.cell? ⟨q, 4, none⟩ = some (.slice rA ks.length rc) ∧ wx.drew.cell? ⟨bn, on + i * 6 + 1, none⟩ = some (.string ⟨x.text.toArray⟩) ∧ wx.drew.cell? ⟨bn, on + i * 6 + 2, none⟩ = some (.string ⟨x.space.toArray⟩) ∧ wx.drew.cell? ⟨bn, on + i * 6 + 3, none⟩ = some (.string ⟨x.name.toArray⟩) ∧ wx.drew.cell? ⟨bn, on + i * 6 + 4, none⟩ = some (.slice aA x.attrs.length ac) ∧ wx.drew.cell? ⟨bn, on + i * 6 + 5, none⟩ = some (.slice kA x.kids.length kc)) => (⟨cell_alloc (w := wx) h.1 ob, cell_alloc (w := wx) h.2.1 ob, cell_alloc (w := wx) h.2.2.1 ob, cell_alloc (w := wx) h.2.2.2.1 ob, cell_alloc (w := wx) h.2.2.2.2.1 ob, cell_alloc (w := wx) h.2.2.2.2.2 ob⟩ : (wx.alloc ob).drew.cell? ⟨q, 4, none⟩ = some (.slice rA ks.length rc) ∧ (wx.alloc ob).drew.cell? ⟨bn, on + i * 6 + 1, none⟩ = some (.string ⟨x.text.toArray⟩) ∧ (wx.alloc ob).drew.cell? ⟨bn, on + i * 6 + 2, none⟩ = some (.string ⟨x.space.toArray⟩) ∧ (wx.alloc ob).drew.cell? ⟨bn, on + i * 6 + 3, none⟩ = some (.string ⟨x.name.toArray⟩) ∧ (wx.alloc ob).drew.cell? ⟨bn, on + i * 6 + 4, none⟩ = some (.slice aA x.attrs.length ac) ∧ (wx.alloc ob).drew.cell? ⟨bn, on + i * 6 + 5, none⟩ = some (.slice kA x.kids.length kc)))
        have HQg := Lib.hid (fun (W w9 : World) (h : ChS w2 q ks W (.slice rA ks.length rc)) (hg : W.grownBy w9 (Value.slice rA ks.length rc).ownBlock) => (show w9.heap[q]? = some (.cells #[.string ⟨#[]⟩, .string ⟨#[68, 65, 86, 58]⟩, .string ⟨#[112, 114, 111, 112, 101, 114, 116, 121, 117, 112, 100, 97, 116, 101]⟩, .slice none 0 0, .slice rA ks.length rc] 26 (0, 0)) from (hg.block q (xlt h.at_) (fun e => by have := (hol _ e.symm).1; omega)).trans h.at_))
        have HS9 := Lib.hid (fun (W w9 : World) (h : ChS w2 q ks W (.slice rA ks.length rc)) (hb : Below w2.heap.size W w9) (g4 : w9.cell? ⟨q, 4, none⟩ = some (.slice rA ks.length rc)) => (show w9.cell? ⟨q, 4, none⟩ = some (.slice rA ks.length rc) ∧ w9.cell? ⟨bn, on + i * 6 + 1, none⟩ = some (.string ⟨x.text.toArray⟩) ∧ w9.cell? ⟨bn, on + i * 6 + 2, none⟩ = some (.string ⟨x.space.toArray⟩) ∧ w9.cell? ⟨bn, on + i * 6 + 3, none⟩ = some (.string ⟨x.name.toArray⟩) ∧ w9.cell? ⟨bn, on + i * 6 + 4, none⟩ = some (.slice aA x.attrs.length ac) ∧ w9.cell? ⟨bn, on + i * 6 + 5, none⟩ = some (.slice kA x.kids.length kc) from by
          have hw : Below w.heap.size w w9 := HB2.out.trans ((h.fr.trans (hb.mono (by omega))).mono hqw)
          exact ⟨g4, (hw.cell (p := ⟨bn, on + i * 6 + 1, none⟩) hbn).trans e1, (hw.cell (p := ⟨bn, on + i * 6 + 2, none⟩) hbn).trans e2, (hw.cell (p := ⟨bn, on + i * 6 + 3, none⟩) hbn).trans e3, (hw.cell (p := ⟨bn, on + i * 6 + 4, none⟩) hbn).trans e4, (hw.cell (p := ⟨bn, on + i * 6 + 5, none⟩) hbn).trans e5⟩))
        have HL := Lib.hid (show (ks.length + 1) * 96 ≤ 140737488355328 by omega)
        have HLn := Lib.hid (show (ks ++ [davN (chgName ⟨rm, x⟩) [davN wOther [], davN wProp [x]]]).length = ks.length + 1 by rw [List.length_append]; rfl)
        have HSA := Lib.hid (show ChS w2 q ks (((((w3.drew.alloc (.cells #[.string ⟨#[]⟩, .string ⟨#[68, 65, 86, 58]⟩, .string ⟨#[111, 116, 104, 101, 114]⟩, .slice none 0 0, .slice none 0 0] 26 (0, 0))).alloc (.cells #[.string ⟨x.text.toArray⟩, .string ⟨x.space.toArray⟩, .string ⟨x.name.toArray⟩, .slice aA x.attrs.length ac, .slice kA x.kids.length kc] 26 (0, 0))).alloc (.cells #[.string ⟨#[]⟩, .string ⟨#[68, 65, 86, 58]⟩, .string ⟨#[112, 114, 111, 112]⟩, .slice none 0 0, .slice (some ⟨w3.heap.size + 1, 0, none⟩) 1 1] 26 (0, 0))).alloc (.cells #[.string ⟨#[]⟩, .string ⟨#[68, 65, 86, 58]⟩, .string ⟨#[111, 116, 104, 101, 114]⟩, .slice none 0 0, .slice none 0 0, .string ⟨#[]⟩, .string ⟨#[68, 65, 86, 58]⟩, .string ⟨#[112, 114, 111, 112]⟩, .slice none 0 0, .slice (some ⟨w3.heap.size + 1, 0, none⟩) 1 1] 26 (0, 0))).alloc (.cells #[.string ⟨#[]⟩, .string ⟨#[68, 65, 86, 58]⟩, .string ⟨(chgName ⟨rm, x⟩).toArray⟩, .slice none 0 0, .slice (some ⟨w3.heap.size + 1 + 1 + 1, 0, none⟩) 2 2] 26 (0, 0))) (.slice rA ks.length rc) from (HS.out.under (below_draws (Below.refl _ _) 1)).under (allocs_below [(.cells #[.string ⟨#[]⟩, .string ⟨#[68, 65, 86, 58]⟩, .string ⟨#[111, 116, 104, 101, 114]⟩, .slice none 0 0, .slice none 0 0] 26 (0, 0)), (.cells #[.string ⟨x.text.toArray⟩, .string ⟨x.space.toArray⟩, .string ⟨x.name.toArray⟩, .slice aA x.attrs.length ac, .slice kA x.kids.length kc] 26 (0, 0)), (.cells #[.string ⟨#[]⟩, .string ⟨#[68, 65, 86, 58]⟩, .string ⟨#[112, 114, 111, 112]⟩, .slice none 0 0, .slice (some ⟨w3.heap.size + 1, 0, none⟩) 1 1] 26 (0, 0)), (.cells #[.string ⟨#[]⟩, .string ⟨#[68, 65, 86, 58]⟩, .string ⟨#[111, 116, 104, 101, 114]⟩, .slice none 0 0, .slice none 0 0, .string ⟨#[]⟩, .string ⟨#[68, 65, 86, 58]⟩, .string ⟨#[112, 114, 111, 112]⟩, .slice none 0 0, .slice (some ⟨w3.heap.size + 1, 0, none⟩) 1 1] 26 (0, 0)), (.cells #[.string ⟨#[]⟩, .string ⟨#[68, 65, 86, 58]⟩, .string ⟨(chgName ⟨rm, x⟩).toArray⟩, .slice none 0 0, .slice (some ⟨w3.heap.size + 1 + 1 + 1, 0, none⟩) 2 2] 26 (0, 0))] w3.drew))
        have HYA := Lib.hid (show NodeP (fun k => k ≠ q ∧ some k ≠ (Value.slice rA ks.length rc).ownBlock) (((((w3.drew.alloc (.cells #[.string ⟨#[]⟩, .string ⟨#[68, 65, 86, 58]⟩, .string ⟨#[111, 116, 104, 101, 114]⟩, .slice none 0 0, .slice none 0 0] 26 (0, 0))).alloc (.cells #[.string ⟨x.text.toArray⟩, .string ⟨x.space.toArray⟩, .string ⟨x.name.toArray⟩, .slice aA x.attrs.length ac, .slice kA x.kids.length kc] 26 (0, 0))).alloc (.cells #[.string ⟨#[]⟩, .string ⟨#[68, 65, 86, 58]⟩, .string ⟨#[112, 114, 111, 112]⟩, .slice none 0 0, .slice (some ⟨w3.heap.size + 1, 0, none⟩) 1 1] 26 (0, 0))).alloc (.cells #[.string ⟨#[]⟩, .string ⟨#[68, 65, 86, 58]⟩, .string ⟨#[111, 116, 104, 101, 114]⟩, .slice none 0 0, .slice none 0 0, .string ⟨#[]⟩, .string ⟨#[68, 65, 86, 58]⟩, .string ⟨#[112, 114, 111, 112]⟩, .slice none 0 0, .slice (some ⟨w3.heap.size + 1, 0, none⟩) 1 1] 26 (0, 0))).alloc (.cells #[.string ⟨#[]⟩, .string ⟨#[68, 65, 86, 58]⟩, .string ⟨(chgName ⟨rm, x⟩).toArray⟩, .slice none 0 0, .slice (some ⟨w3.heap.size + 1 + 1 + 1, 0, none⟩) 2 2] 26 (0, 0))) [.string ⟨#[]⟩, .string ⟨#[68, 65, 86, 58]⟩, .string ⟨(chgName ⟨rm, x⟩).toArray⟩, .slice none 0 0, .slice (some ⟨w3.heap.size + 1 + 1 + 1, 0, none⟩) 2 2] (davN (chgName ⟨rm, x⟩) [davN wOther [], davN wProp [x]]) from
          chg_node (w := w) (q := q) (b1 := w3.heap.size + 1) (b2 := w3.heap.size + 1 + 1 + 1) HN.out (fun k hk => ⟨by omega, fun e => by have := (hol k e.symm).1; omega, ((allocs_below [(.cells #[.string ⟨#[]⟩, .string ⟨#[68, 65, 86, 58]⟩, .string ⟨#[111, 116, 104, 101, 114]⟩, .slice none 0 0, .slice none 0 0] 26 (0, 0)), (.cells #[.string ⟨x.text.toArray⟩, .string ⟨x.space.toArray⟩, .string ⟨x.name.toArray⟩, .slice aA x.attrs.length ac, .slice kA x.kids.length kc] 26 (0, 0)), (.cells #[.string ⟨#[]⟩, .string ⟨#[68, 65, 86, 58]⟩, .string ⟨#[112, 114, 111, 112]⟩, .slice none 0 0, .slice (some ⟨w3.heap.size + 1, 0, none⟩) 1 1] 26 (0, 0)), (.cells #[.string ⟨#[]⟩, .string ⟨#[68, 65, 86, 58]⟩, .string ⟨#[111, 116, 104, 101, 114]⟩, .slice none 0 0, .slice none 0 0, .string ⟨#[]⟩, .string ⟨#[68, 65, 86, 58]⟩, .string ⟨#[112, 114, 111, 112]⟩, .slice none 0 0, .slice (some ⟨w3.heap.size + 1, 0, none⟩) 1 1] 26 (0, 0)), (.cells #[.string ⟨#[]⟩, .string ⟨#[68, 65, 86, 58]⟩, .string ⟨(chgName ⟨rm, x⟩).toArray⟩, .slice none 0 0, .slice (some ⟨w3.heap.size + 1 + 1 + 1, 0, none⟩) 2 2] 26 (0, 0))] w3.drew).block k (by show k < w3.heap.size; have := HBr.out.size; omega)).trans (HBr.out.block k hk)⟩) (Nat.le_trans HBr.out.size (allocs_below [(.cells #[.string ⟨#[]⟩, .string ⟨#[68, 65, 86, 58]⟩, .string ⟨#[111, 116, 104, 101, 114]⟩, .slice none 0 0, .slice none 0 0] 26 (0, 0)), (.cells #[.string ⟨x.text.toArray⟩, .string ⟨x.space.toArray⟩, .string ⟨x.name.toArray⟩, .slice aA x.attrs.length ac, .slice kA x.kids.length kc] 26 (0, 0)), (.cells #[.string ⟨#[]⟩, .string ⟨#[68, 65, 86, 58]⟩, .string ⟨#[112, 114, 111, 112]⟩, .slice none 0 0, .slice (some ⟨w3.heap.size + 1, 0, none⟩) 1 1] 26 (0, 0)), (.cells #[.string ⟨#[]⟩, .string ⟨#[68, 65, 86, 58]⟩, .string ⟨#[111, 116, 104, 101, 114]⟩, .slice none 0 0, .slice none 0 0, .string ⟨#[]⟩, .string ⟨#[68, 65, 86, 58]⟩, .string ⟨#[112, 114, 111, 112]⟩, .slice none 0 0, .slice (some ⟨w3.heap.size + 1, 0, none⟩) 1 1] 26 (0, 0)), (.cells #[.string ⟨#[]⟩, .string ⟨#[68, 65, 86, 58]⟩, .string ⟨(chgName ⟨rm, x⟩).toArray⟩, .slice none 0 0, .slice (some ⟨w3.heap.size + 1 + 1 + 1, 0, none⟩) 2 2] 26 (0, 0))] w3.drew).size)
            (allocs_at [(.cells #[.string ⟨#[]⟩, .string ⟨#[68, 65, 86, 58]⟩, .string ⟨#[111, 116, 104, 101, 114]⟩, .slice none 0 0, .slice none 0 0] 26 (0, 0)), (.cells #[.string ⟨x.text.toArray⟩, .string ⟨x.space.toArray⟩, .string ⟨x.name.toArray⟩, .slice aA x.attrs.length ac, .slice kA x.kids.length kc] 26 (0, 0)), (.cells #[.string ⟨#[]⟩, .string ⟨#[68, 65, 86, 58]⟩, .string ⟨#[112, 114, 111, 112]⟩, .slice none 0 0, .slice (some ⟨w3.heap.size + 1, 0, none⟩) 1 1] 26 (0, 0)), (.cells #[.string ⟨#[]⟩, .string ⟨#[68, 65, 86, 58]⟩, .string ⟨#[111, 116, 104, 101, 114]⟩, .slice none 0 0, .slice none 0 0, .string ⟨#[]⟩, .string ⟨#[68, 65, 86, 58]⟩, .string ⟨#[112, 114, 111, 112]⟩, .slice none 0 0, .slice (some ⟨w3.heap.size + 1, 0, none⟩) 1 1] 26 (0, 0)), (.cells #[.string ⟨#[]⟩, .string ⟨#[68, 65, 86, 58]⟩, .string ⟨(chgName ⟨rm, x⟩).toArray⟩, .slice none 0 0, .slice (some ⟨w3.heap.size + 1 + 1 + 1, 0, none⟩) 2 2] 26 (0, 0))] w3.drew 1 _ rfl) (allocs_at [(.cells #[.string ⟨#[]⟩, .string ⟨#[68, 65, 86, 58]⟩, .string ⟨#[111, 116, 104, 101, 114]⟩, .slice none 0 0, .slice none 0 0] 26 (0, 0)), (.cells #[.string ⟨x.text.toArray⟩, .string ⟨x.space.toArray⟩, .string ⟨x.name.toArray⟩, .slice aA x.attrs.length ac, .slice kA x.kids.length kc] 26 (0, 0)), (.cells #[.string ⟨#[]⟩, .string ⟨#[68, 65, 86, 58]⟩, .string ⟨#[112, 114, 111, 112]⟩, .slice none 0 0, .slice (some ⟨w3.heap.size + 1, 0, none⟩) 1 1] 26 (0, 0)), (.cells #[.string ⟨#[]⟩, .string ⟨#[68, 65, 86, 58]⟩, .string ⟨#[111, 116, 104, 101, 114]⟩, .slice none 0 0, .slice none 0 0, .string ⟨#[]⟩, .string ⟨#[68, 65, 86, 58]⟩, .string ⟨#[112, 114, 111, 112]⟩, .slice none 0 0, .slice (some ⟨w3.heap.size + 1, 0, none⟩) 1 1] 26 (0, 0)), (.cells #[.string ⟨#[]⟩, .string ⟨#[68, 65, 86, 58]⟩, .string ⟨(chgName ⟨rm, x⟩).toArray⟩, .slice none 0 0, .slice (some ⟨w3.heap.size + 1 + 1 + 1, 0, none⟩) 2 2] 26 (0, 0))] w3.drew 3 _ rfl) ⟨by omega, fun e => by have := (hol _ e.symm).2; omega⟩ ⟨by omega, fun e => by have := (hol _ e.symm).2; omega⟩)
        have HSB := Lib.hid (show ChS w2 q ks (((((w3.drew.alloc (.cells #[.string ⟨x.text.toArray⟩, .string ⟨x.space.toArray⟩, .string ⟨x.name.toArray⟩, .slice aA x.attrs.length ac, .slice kA x.kids.length kc] 26 (0, 0))).alloc (.cells #[.string ⟨#[]⟩, .string ⟨#[68, 65, 86, 58]⟩, .string ⟨#[111, 116, 104, 101, 114]⟩, .slice none 0 0, .slice none 0 0] 26 (0, 0))).alloc (.cells #[.string ⟨#[]⟩, .string ⟨#[68, 65, 86, 58]⟩, .string ⟨#[112, 114, 111, 112]⟩, .slice none 0 0, .slice (some ⟨w3.heap.size, 0, none⟩) 1 1] 26 (0, 0))).alloc (.cells #[.string ⟨#[]⟩, .string ⟨#[68, 65, 86, 58]⟩, .string ⟨#[111, 116, 104, 101, 114]⟩, .slice none 0 0, .slice none 0 0, .string ⟨#[]⟩, .string ⟨#[68, 65, 86, 58]⟩, .string ⟨#[112, 114, 111, 112]⟩, .slice none 0 0, .slice (some ⟨w3.heap.size, 0, none⟩) 1 1] 26 (0, 0))).alloc (.cells #[.string ⟨#[]⟩, .string ⟨#[68, 65, 86, 58]⟩, .string ⟨(chgName ⟨rm, x⟩).toArray⟩, .slice none 0 0, .slice (some ⟨w3.heap.size + 1 + 1 + 1, 0, none⟩) 2 2] 26 (0, 0))) (.slice rA ks.length rc) from (HS.out.under (below_draws (Below.refl _ _) 1)).under (allocs_below [(.cells #[.string ⟨x.text.toArray⟩, .string ⟨x.space.toArray⟩, .string ⟨x.name.toArray⟩, .slice aA x.attrs.length ac, .slice kA x.kids.length kc] 26 (0, 0)), (.cells #[.string ⟨#[]⟩, .string ⟨#[68, 65, 86, 58]⟩, .string ⟨#[111, 116, 104, 101, 114]⟩, .slice none 0 0, .slice none 0 0] 26 (0, 0)), (.cells #[.string ⟨#[]⟩, .string ⟨#[68, 65, 86, 58]⟩, .string ⟨#[112, 114, 111, 112]⟩, .slice none 0 0, .slice (some ⟨w3.heap.size, 0, none⟩) 1 1] 26 (0, 0)), (.cells #[.string ⟨#[]⟩, .string ⟨#[68, 65, 86, 58]⟩, .string ⟨#[111, 116, 104, 101, 114]⟩, .slice none 0 0, .slice none 0 0, .string ⟨#[]⟩, .string ⟨#[68, 65, 86, 58]⟩, .string ⟨#[112, 114, 111, 112]⟩, .slice none 0 0, .slice (some ⟨w3.heap.size, 0, none⟩) 1 1] 26 (0, 0)), (.cells #[.string ⟨#[]⟩, .string ⟨#[68, 65, 86, 58]⟩, .string ⟨(chgName ⟨rm, x⟩).toArray⟩, .slice none 0 0, .slice (some ⟨w3.heap.size + 1 + 1 + 1, 0, none⟩) 2 2] 26 (0, 0))] w3.drew))
        have HYB := Lib.hid (show NodeP (fun k => k ≠ q ∧ some k ≠ (Value.slice rA ks.length rc).ownBlock) (((((w3.drew.alloc (.cells #[.string ⟨x.text.toArray⟩, .string ⟨x.space.toArray⟩, .string ⟨x.name.toArray⟩, .slice aA x.attrs.length ac, .slice kA x.kids.length kc] 26 (0, 0))).alloc (.cells #[.string ⟨#[]⟩, .string ⟨#[68, 65, 86, 58]⟩, .string ⟨#[111, 116, 104, 101, 114]⟩, .slice none 0 0, .slice none 0 0] 26 (0, 0))).alloc (.cells #[.string ⟨#[]⟩, .string ⟨#[68, 65, 86, 58]⟩, .string ⟨#[112, 114, 111, 112]⟩, .slice none 0 0, .slice (some ⟨w3.heap.size, 0, none⟩) 1 1] 26 (0, 0))).alloc (.cells #[.string ⟨#[]⟩, .string ⟨#[68, 65, 86, 58]⟩, .string ⟨#[111, 116, 104, 101, 114]⟩, .slice none 0 0, .slice none 0 0, .string ⟨#[]⟩, .string ⟨#[68, 65, 86, 58]⟩, .string ⟨#[112, 114, 111, 112]⟩, .slice none 0 0, .slice (some ⟨w3.heap.size, 0, none⟩) 1 1] 26 (0, 0))).alloc (.cells #[.string ⟨#[]⟩, .string ⟨#[68, 65, 86, 58]⟩, .string ⟨(chgName ⟨rm, x⟩).toArray⟩, .slice none 0 0, .slice (some ⟨w3.heap.size + 1 + 1 + 1, 0, none⟩) 2 2] 26 (0, 0))) [.string ⟨#[]⟩, .string ⟨#[68, 65, 86, 58]⟩, .string ⟨(chgName ⟨rm, x⟩).toArray⟩, .slice none 0 0, .slice (some ⟨w3.heap.size + 1 + 1 + 1, 0, none⟩) 2 2] (davN (chgName ⟨rm, x⟩) [davN wOther [], davN wProp [x]]) from
          chg_node (w := w) (q := q) (b1 := w3.heap.size) (b2 := w3.heap.size + 1 + 1 + 1) HN.out (fun k hk => ⟨by omega, fun e => by have := (hol k e.symm).1; omega, ((allocs_below [(.cells #[.string ⟨x.text.toArray⟩, .string ⟨x.space.toArray⟩, .string ⟨x.name.toArray⟩, .slice aA x.attrs.length ac, .slice kA x.kids.length kc] 26 (0, 0)), (.cells #[.string ⟨#[]⟩, .string ⟨#[68, 65, 86, 58]⟩, .string ⟨#[111, 116, 104, 101, 114]⟩, .slice none 0 0, .slice none 0 0] 26 (0, 0)), (.cells #[.string ⟨#[]⟩, .string ⟨#[68, 65, 86, 58]⟩, .string ⟨#[112, 114, 111, 112]⟩, .slice none 0 0, .slice (some ⟨w3.heap.size, 0, none⟩) 1 1] 26 (0, 0)), (.cells #[.string ⟨#[]⟩, .string ⟨#[68, 65, 86, 58]⟩, .string ⟨#[111, 116, 104, 101, 114]⟩, .slice none 0 0, .slice none 0 0, .string ⟨#[]⟩, .string ⟨#[68, 65, 86, 58]⟩, .string ⟨#[112, 114, 111, 112]⟩, .slice none 0 0, .slice (some ⟨w3.heap.size, 0, none⟩) 1 1] 26 (0, 0)), (.cells #[.string ⟨#[]⟩, .string ⟨#[68, 65, 86, 58]⟩, .string ⟨(chgName ⟨rm, x⟩).toArray⟩, .slice none 0 0, .slice (some ⟨w3.heap.size + 1 + 1 + 1, 0, none⟩) 2 2] 26 (0, 0))] w3.drew).block k (by show k < w3.heap.size; have := HBr.out.size; omega)).trans (HBr.out.block k hk)⟩) (Nat.le_trans HBr.out.size (allocs_below [(.cells #[.string ⟨x.text.toArray⟩, .string ⟨x.space.toArray⟩, .string ⟨x.name.toArray⟩, .slice aA x.attrs.length ac, .slice kA x.kids.length kc] 26 (0, 0)), (.cells #[.string ⟨#[]⟩, .string ⟨#[68, 65, 86, 58]⟩, .string ⟨#[111, 116, 104, 101, 114]⟩, .slice none 0 0, .slice none 0 0] 26 (0, 0)), (.cells #[.string ⟨#[]⟩, .string ⟨#[68, 65, 86, 58]⟩, .string ⟨#[112, 114, 111, 112]⟩, .slice none 0 0, .slice (some ⟨w3.heap.size, 0, none⟩) 1 1] 26 (0, 0)), (.cells #[.string ⟨#[]⟩, .string ⟨#[68, 65, 86, 58]⟩, .string ⟨#[111, 116, 104, 101, 114]⟩, .slice none 0 0, .slice none 0 0, .string ⟨#[]⟩, .string ⟨#[68, 65, 86, 58]⟩, .string ⟨#[112, 114, 111, 112]⟩, .slice none 0 0, .slice (some ⟨w3.heap.size, 0, none⟩) 1 1] 26 (0, 0)), (.cells #[.string ⟨#[]⟩, .string ⟨#[68, 65, 86, 58]⟩, .string ⟨(chgName ⟨rm, x⟩).toArray⟩, .slice none 0 0, .slice (some ⟨w3.heap.size + 1 + 1 + 1, 0, none⟩) 2 2] 26 (0, 0))] w3.drew).size)
            (allocs_at [(.cells #[.string ⟨x.text.toArray⟩, .string ⟨x.space.toArray⟩, .string ⟨x.name.toArray⟩, .slice aA x.attrs.length ac, .slice kA x.kids.length kc] 26 (0, 0)), (.cells #[.string ⟨#[]⟩, .string ⟨#[68, 65, 86, 58]⟩, .string ⟨#[111, 116, 104, 101, 114]⟩, .slice none 0 0, .slice none 0 0] 26 (0, 0)), (.cells #[.string ⟨#[]⟩, .string ⟨#[68, 65, 86, 58]⟩, .string ⟨#[112, 114, 111, 112]⟩, .slice none 0 0, .slice (some ⟨w3.heap.size, 0, none⟩) 1 1] 26 (0, 0)), (.cells #[.string ⟨#[]⟩, .string ⟨#[68, 65, 86, 58]⟩, .string ⟨#[111, 116, 104, 101, 114]⟩, .slice none 0 0, .slice none 0 0, .string ⟨#[]⟩, .string ⟨#[68, 65, 86, 58]⟩, .string ⟨#[112, 114, 111, 112]⟩, .slice none 0 0, .slice (some ⟨w3.heap.size, 0, none⟩) 1 1] 26 (0, 0)), (.cells #[.string ⟨#[]⟩, .string ⟨#[68, 65, 86, 58]⟩, .string ⟨(chgName ⟨rm, x⟩).toArray⟩, .slice none 0 0, .slice (some ⟨w3.heap.size + 1 + 1 + 1, 0, none⟩) 2 2] 26 (0, 0))] w3.drew 0 _ rfl) (allocs_at [(.cells #[.string ⟨x.text.toArray⟩, .string ⟨x.space.toArray⟩, .string ⟨x.name.toArray⟩, .slice aA x.attrs.length ac, .slice kA x.kids.length kc] 26 (0, 0)), (.cells #[.string ⟨#[]⟩, .string ⟨#[68, 65, 86, 58]⟩, .string ⟨#[111, 116, 104, 101, 114]⟩, .slice none 0 0, .slice none 0 0] 26 (0, 0)), (.cells #[.string ⟨#[]⟩, .string ⟨#[68, 65, 86, 58]⟩, .string ⟨#[112, 114, 111, 112]⟩, .slice none 0 0, .slice (some ⟨w3.heap.size, 0, none⟩) 1 1] 26 (0, 0)), (.cells #[.string ⟨#[]⟩, .string ⟨#[68, 65, 86, 58]⟩, .string ⟨#[111, 116, 104, 101, 114]⟩, .slice none 0 0, .slice none 0 0, .string ⟨#[]⟩, .string ⟨#[68, 65, 86, 58]⟩, .string ⟨#[112, 114, 111, 112]⟩, .slice none 0 0, .slice (some ⟨w3.heap.size, 0, none⟩) 1 1] 26 (0, 0)), (.cells #[.string ⟨#[]⟩, .string ⟨#[68, 65, 86, 58]⟩, .string ⟨(chgName ⟨rm, x⟩).toArray⟩, .slice none 0 0, .slice (some ⟨w3.heap.size + 1 + 1 + 1, 0, none⟩) 2 2] 26 (0, 0))] w3.drew 3 _ rfl) ⟨by omega, fun e => by have := (hol _ e.symm).2; omega⟩ ⟨by omega, fun e => by have := (hol _ e.symm).2; omega⟩)
        clear hol e1 e2 e3 e4 e5 HTz HVt HVk HE hbk hzb
        obtain ⟨y4, d1, d2, d3, d4, d5⟩ := (show w3.cell? ⟨q, 4, none⟩ = some (.slice rA ks.length rc) ∧ _ from hS0)
        replace d1 : w3.cell? ⟨bn, on + i * 6 + 1, none⟩ = some (.string ⟨x.text.toArray⟩) := d1
        replace d2 : w3.cell? ⟨bn, on + i * 6 + 1 + 1, none⟩ = some (.string ⟨x.space.toArray⟩) := d2
        replace d3 : w3.cell? ⟨bn, on + i * 6 + 1 + 2, none⟩ = some (.string ⟨x.name.toArray⟩) := d3
        replace d4 : w3.cell? ⟨bn, on + i * 6 + 1 + 3, none⟩ = some (.slice aA x.attrs.length ac) := d4
        replace d5 : w3.cell? ⟨bn, on + i * 6 + 1 + 4, none⟩ = some (.slice kA x.kids.length kc) := d5
        have hb3 : bn < w3.heap.size := Nat.lt_of_lt_of_le hbn HBr.out.size
        have hqs1 : q < w3.heap.size + 1 := by omega
        have hqs2 : q < w3.heap.size + 1 + 1 := by omega
        have hqs3 : q < w3.heap.size + 1 + 1 + 1 := by omega
        have hqs4 : q < w3.heap.size + 1 + 1 + 1 + 1 := by omega
        have hqs5 : q < w3.heap.size + 1 + 1 + 1 + 1 + 1 := by omega
        have hqs6 : q < w3.heap.size + 1 + 1 + 1 + 1 + 1 + 1 := by omega
        have hb31 : bn < w3.heap.size + 1 := by omega
        have hb32 : bn < w3.heap.size + 1 + 1 := by omega
        clear hS0 Hk HS9
        go_region_law
          (first
            | (go_simp; go_at_call 13; refine (adav_ex _ _ _ _ _).mono ?_; rintro e w4 ⟨rfl, rfl⟩)
            | (refine step_appG elemN mov_node rfl (.tmp 29) (.tmp 41) rfl (by rfl) HSA.out.kids #[.string ⟨#[]⟩, .string ⟨#[68, 65, 86, 58]⟩, .string ⟨(chgName ⟨rm, x⟩).toArray⟩, .slice none 0 0, .slice (some ⟨w3.heap.size + 1 + 1 + 1, 0, none⟩) 2 2] (davN (chgName ⟨rm, x⟩) [davN wOther [], davN wProp [x]]) HYA.out (w3.heap.size + 1 + 1 + 1 + 1 + 1) (by simp) (by rfl) rfl (by simp [Value.oneCell']) HL.out HSA.out.sz ?_; intro v9 w9 hr9 hb9 hg9 hn9; have hc9 := ChS.app HSA.out hr9 hb9 hg9; obtain ⟨A9, c9, hv9, -, -⟩ := hr9.form; rw [HLn.out] at hv9; subst hv9; have hq9 := HQg.out _ _ HSA.out hg9; have g4 : w9.cell? ⟨q, 4, none⟩ = some (.slice rA ks.length rc) := xat hq9 4; have h4 := xfree hq9 4; have HC9 := Lib.hid hc9)
            | (refine step_appG elemN mov_node rfl (.tmp 29) (.tmp 41) rfl (by rfl) HSB.out.kids #[.string ⟨#[]⟩, .string ⟨#[68, 65, 86, 58]⟩, .string ⟨(chgName ⟨rm, x⟩).toArray⟩, .slice none 0 0, .slice (some ⟨w3.heap.size + 1 + 1 + 1, 0, none⟩) 2 2] (davN (chgName ⟨rm, x⟩) [davN wOther [], davN wProp [x]]) HYB.out (w3.heap.size + 1 + 1 + 1 + 1 + 1) (by simp) (by rfl) rfl (by simp [Value.oneCell']) HL.out HSB.out.sz ?_; intro v9 w9 hr9 hb9 hg9 hn9; have hc9 := ChS.app HSB.out hr9 hb9 hg9; obtain ⟨A9, c9, hv9, -, -⟩ := hr9.form; rw [HLn.out] at hv9; subst hv9; have hq9 := HQg.out _ _ HSB.out hg9; have g4 : w9.cell? ⟨q, 4, none⟩ = some (.slice rA ks.length rc) := xat hq9 4; have h4 := xfree hq9 4; have HC9 := Lib.hid hc9))
        all_goals
          clear hr9 hb9 hg9 hn9 hc9 hq9 g4 h4
          go_wp2
          go_meet
          exact ⟨_, HC9⟩
      case rest =>
      obtain ⟨kv2, HS2⟩ := hcut
      obtain ⟨rA2, rc2, hkv2, hrc3, hrc4⟩ := HS2.out.kids.form
      unfold maxLen at hrc4
      subst hkv2
      obtain ⟨w4, hw4⟩ : ∃ w4, w4 = wc := ⟨_, rfl⟩
      subst hw4
      obtain ⟨ks2, hks2⟩ : ∃ ks2, ks2 = ks ++ [davN (chgName ⟨rm, x⟩) [davN wOther [], davN wProp [x]]] := ⟨_, rfl⟩
      have HK2 := Lib.hid (show ks2.length ≤ 2 * i + 1 by rw [hks2, List.length_append]; show ks.length + 1 ≤ _; omega)
      have HTk2 := Lib.hid (show (l.take (i + 1)).flatMap (chgTree z) = ks2 ++ (if noisy z then [z] else []) by rw [HTk.out, hks2, List.append_assoc]; rfl)
      rw [← hks2] at HS2 hrc3
      clear hks2 HTk HS HBr HZr HN HD hbn hrc1 hrc2
      have HZ3 := Lib.hid ((HS2.out.fr.block _ hqzq).trans HZ2.out)
      have HB3 := Lib.hid (HB2.out.trans (HS2.out.fr.mono hqw))
      have z2 := xat HZ3.out 2
      simp only [List.getElem?_toArray, List.getElem?_cons_zero, List.getElem?_cons_succ] at z2
      go_upto_region 11 with (fail)
      go_cut [51] (fun v wc => v = .bool (noisy z) ∧ wc = w4)
      case first =>
        clear HTz HVt HVk HE
        by_cases hz1 : z.name = wSet
        · have e1 : (z.name == [115, 101, 116]) = true := beq_iff_eq.2 hz1
          have e2 : (z.name != [115, 101, 116]) = false := by rw [bne, e1]; rfl
          have HD := Lib.hid (show noisy z = false by unfold noisy; rw [decide_eq_true hz1]; rfl)
          clear hz1
          go_wp2
          go_meet
          exact ⟨by rw [HD.out], rfl⟩
        · have e1 : (z.name == [115, 101, 116]) = false := beq_eq_false_iff_ne.2 hz1
          have e2 : (z.name != [115, 101, 116]) = true := by rw [bne, e1]; rfl
          by_cases hz3 : z.name = wRemove
          · have e3 : (z.name == [114, 101, 109, 111, 118, 101]) = true := beq_iff_eq.2 hz3
            have e4 : (z.name != [114, 101, 109, 111, 118, 101]) = false := by rw [bne, e3]; rfl
            have HD := Lib.hid (show noisy z = false by unfold noisy; rw [decide_eq_true hz3, Bool.not_true, Bool.and_false])
            clear hz1 hz3
            go_wp2
            go_meet
            exact ⟨by rw [HD.out], rfl⟩
          · have e3 : (z.name == [114, 101, 109, 111, 118, 101]) = false := beq_eq_false_iff_ne.2 hz3
            have e4 : (z.name != [114, 101, 109, 111, 118, 101]) = true := by rw [bne, e3]; rfl
            have HD := Lib.hid (show noisy z = true by unfold noisy; rw [decide_eq_false hz1, decide_eq_false hz3]; rfl)
            clear hz1 hz3
            go_wp2
            go_meet
            exact ⟨by rw [HD.out], rfl⟩
      case rest =>
      obtain ⟨rfl, hwc⟩ := hcut
      subst hwc
      clear z2
      go_upto_if 51 with (fail)
      cases hz : noisy z
      · have HTk3 := Lib.hid (show (l.take (i + 1)).flatMap (chgTree z) = ks2 by rw [HTk2.out, hz, if_neg (by decide), List.append_nil])
        clear hz
        go_wp2
        go_roundg (gk - 1)
        case measure => omega
        case rel => exact ⟨i + 1, _, by omega, by go_num, by rw [HTk3.out]; exact HS2⟩
      · have HTk3 := Lib.hid (show (l.take (i + 1)).flatMap (chgTree z) = ks2 ++ [z] by rw [HTk2.out, hz, if_pos rfl])
        have HNz := Lib.hid (show NodeP (fun k => k ≠ q ∧ some k ≠ (Value.slice rA2 ks2.length rc2).ownBlock) wc [.string ⟨z.text.toArray⟩, .string ⟨z.space.toArray⟩, .string ⟨z.name.toArray⟩, .slice zaA z.attrs.length zac, .slice zkA z.kids.length zkc] z from HTz.out.node.move ⟨HB3.out.size, fun k _ hk => ⟨⟨by omega, fun e => by have := (HS2.out.kids.lt _ e.symm).1; have := HB2.out.size; omega⟩, HB3.out.block k hk⟩⟩)
        have z0 := xat HZ3.out 0
        have z1 := xat HZ3.out 1
        have z2 := xat HZ3.out 2
        have z3 := xat HZ3.out 3
        have z4 := xat HZ3.out 4
        have r4 := xat HS2.out.at_ 4
        simp only [List.getElem?_toArray, List.getElem?_cons_zero, List.getElem?_cons_succ] at z0 z1 z2 z3 z4 r4
        have hsz := HS2.out.sz
        have hqa := HS2.out.at_
        have hol := HS2.out.kids.lt
        have HQA := Lib.hid hqa
        have HOL := Lib.hid hol
        clear hz hqa hol
        go_wp2_with (at_builtin; refine wpList_appG elemN mov_node rfl _ _ rfl rfl HS2.out.kids _ z HNz.out _ rfl rfl rfl (by simp [Value.oneCell']) (by have := HK2.out; omega) hsz ?_)
        intro v9 w9 hr9 hb9 hg9 hn9
        have HC9 := Lib.hid (ChS.app HS2.out hr9 hb9 hg9)
        obtain ⟨A9, c9, hv9, -, -⟩ := hr9.form
        rw [show (ks2 ++ [z]).length = ks2.length + 1 from List.length_append ..] at hv9
        subst hv9
        have hq9 := (hg9.block q (xlt HQA.out) (fun e => by have := (HOL.out _ e.symm).1; omega)).trans HQA.out
        have f4 := xfree hq9 4
        have g4 := xat hq9 4
        simp only [List.getElem?_toArray, List.getElem?_cons_zero, List.getElem?_cons_succ] at g4
        clear hr9 hb9 hg9 hn9 hq9 z0 z1 z2 z3 z4 r4
        go_wp2
        go_roundg (gk - 1)
        case measure => omega
        case rel => exact ⟨i + 1, _, by omega, by go_num, by rw [HTk3.out]; exact HC9⟩
end Go.Proofs.YtopogglcnnjdlaaGreatDoor

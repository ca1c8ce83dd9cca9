/-
  Parts of the walks and plain laws of layer 10, joined: MulD. Conditions: as each theorem states them.
-/
import Derived.Test.YtcamdnfhnianbaaGreatDoorXmlZ43
/-! MulD -/
namespace Go.Proofs.YtcamdnfhnianbaaGreatDoor
set_option linter.unusedVariables false
set_option linter.unusedSimpArgs false
open Go.RowKit

/-- how great what is told may be. -/
structure SmallM (l : List ToldT) : Prop where
  len : l.length ≤ 1000000
  parts : ∀ t ∈ l, t.parts.length ≤ 1000000
  props : ∀ t ∈ l, ∀ p ∈ t.parts, ∀ n ∈ p.props, SmallN 2000000 n
  tree : l.all goodM = true → SmallN 2000000 (davN wMulti (l.map respN)) ∧ (formN [] (davN wMulti (l.map respN))).length ≤ 90000000000000
theorem good_reason {t : ToldT} (h : goodM t = true) : ∀ p ∈ t.parts, reasonS p.status ≠ [] := by
  intro p hp
  unfold goodM at h
  rw [Bool.and_eq_true, List.all_eq_true] at h
  have := h.1 p hp
  unfold goodP at this
  rw [Bool.and_eq_true] at this
  simpa using this.1
def mapB (X : Except Int (List UInt8)) : Except Int (List UInt8) := match X with
  | .ok s => .ok s
  | .error e => .error (if e = 30 then 1 else e)
theorem buildM_eq (l : List ToldT) : buildM l = if l.all goodM then mapB (writeX (multiN l)) else .error 1 := rfl
set_option maxHeartbeats 64000000 in
set_option maxRecDepth 100000 in
set_option linter.unusedSimpArgs false in
theorem mbuild_any (l : List ToldT) (A : Option Addr) (c : Nat) (w : World) (hp : ToldsP anyB w (.slice A l.length c) l) (hs : SmallM l) (hE : MEnv w) :
    Calls Tryz.prog 9 #[.slice A l.length c] w (WrV (buildM l) w) := by
  obtain ⟨-, hpc, hpm, hpk⟩ := told_at hp.1
  unfold maxLen at hpm
  have HPk := Lib.hid hpk
  have HSm := Lib.hid hs
  have HE := Lib.hid hE
  have hll := hs.len
  obtain ⟨V, hV⟩ : ∃ V, l.all goodM = V := ⟨_, rfl⟩
  have HB := Lib.hid (show buildM l = if V then mapB (writeX (multiN l)) else .error 1 by rw [← hV]; exact buildM_eq l)
  obtain ⟨E, hEE⟩ : ∃ E, E = WrV (buildM l) w := ⟨_, rfl⟩
  rw [← hEE]
  have HEE := Lib.hid hEE
  have HV := Lib.hid (show (l.drop 0).all goodM = V from hV)
  have HVl := Lib.hid hV
  obtain ⟨q, hq⟩ : ∃ q, q = w.heap.size + 1 := ⟨_, rfl⟩
  have hb0 : Below w.heap.size w ((w.alloc (.cells #[.string ⟨#[]⟩, .string ⟨#[68, 65, 86, 58]⟩, .string ⟨#[109, 117, 108, 116, 105, 115, 116, 97, 116, 117, 115]⟩, .slice none 0 0, .slice none 0 0] 36 (0, 0))).alloc (.cells #[.string ⟨#[]⟩, .string ⟨#[68, 65, 86, 58]⟩, .string ⟨#[109, 117, 108, 116, 105, 115, 116, 97, 116, 117, 115]⟩, .slice none 0 0, .slice none 0 0] 36 (0, 0))) := (two_alloc w _ _).1
  have a1 : ((w.alloc (.cells #[.string ⟨#[]⟩, .string ⟨#[68, 65, 86, 58]⟩, .string ⟨#[109, 117, 108, 116, 105, 115, 116, 97, 116, 117, 115]⟩, .slice none 0 0, .slice none 0 0] 36 (0, 0))).alloc (.cells #[.string ⟨#[]⟩, .string ⟨#[68, 65, 86, 58]⟩, .string ⟨#[109, 117, 108, 116, 105, 115, 116, 97, 116, 117, 115]⟩, .slice none 0 0, .slice none 0 0] 36 (0, 0))).heap[w.heap.size + 1]? = some (.cells #[.string ⟨#[]⟩, .string ⟨#[68, 65, 86, 58]⟩, .string ⟨#[109, 117, 108, 116, 105, 115, 116, 97, 116, 117, 115]⟩, .slice none 0 0, .slice none 0 0] 36 (0, 0)) := (two_alloc w _ _).2.2
  have HA1 := Lib.hid a1
  have HB0 := Lib.hid hb0
  clear hp hs hE hEE hpk hV hb0 a1
  go_enter Tryz.func9, Tryz.ntmps9
  go_upto_region 3 with (go_at_call 18; refine (mdav_ex _ _ _ _ _).mono ?_; rintro e w4 ⟨rfl, rfl⟩)
  generalize (w.alloc (.cells #[.string ⟨#[]⟩, .string ⟨#[68, 65, 86, 58]⟩, .string ⟨#[109, 117, 108, 116, 105, 115, 116, 97, 116, 117, 115]⟩, .slice none 0 0, .slice none 0 0] 36 (0, 0))).alloc (.cells #[.string ⟨#[]⟩, .string ⟨#[68, 65, 86, 58]⟩, .string ⟨#[109, 117, 108, 116, 105, 115, 116, 97, 116, 117, 115]⟩, .slice none 0 0, .slice none 0 0] 36 (0, 0)) = w2 at *
  rw [← hq] at HA1 ⊢
  have hqw : w.heap.size ≤ q := by omega
  have HG0 := Lib.hid (⟨HA1.out, RowG.nil _ _ _ _ _ _, Below.refl _ _, (fun e => by cases e), (fun h => h rfl), hqw, (fun _ _ => rfl), fun _ h => h.elim⟩ : GrT wMulti w.heap.size q (· ≠ q) (fun _ => False) w2 [] w2 (.slice none 0 0))
  clear hq
  go_loopg [12] l.length (fun gk v12 wr => ∃ (i : Nat) (kv : Value), i + gk = l.length ∧ v12 = .int .i64 i ∧ Hid (GrT wMulti w.heap.size q (· ≠ q) (fun _ => False) w2 ((l.take i).map respN) wr kv) ∧ Hid ((l.drop i).all goodM = V))
  case atStart => exact ⟨0, _, by omega, rfl, HG0, HV⟩
  case round =>
    obtain ⟨i, kv, hig, rfl, HS, HAll⟩ := hrel
    clear HG0 HV HA1
    have HBr := Lib.hid (HB0.out.trans HS.out.fr)
    obtain ⟨rA, rc, hkv, hrc1, hrc2⟩ := HS.out.kids.form
    unfold maxLen at hrc2
    have hil : i ≤ l.length := by omega
    have hkl : ((l.take i).map respN).length = i := by rw [List.length_map, List.length_take]; omega
    rw [hkl] at hkv hrc1
    subst hkv
    rcases hd : l.drop i with _ | ⟨t, rest⟩
    · have hi2 : i = l.length := by have := drop_nil hd; omega
      subst hi2
      rw [List.take_length] at HS hkl
      have hV : V = true := by have := HAll.out; rw [hd] at this; exact this.symm
      have x0 := xat HS.out.at_ 0
      have x1 := xat HS.out.at_ 1
      have x2 := xat HS.out.at_ 2
      have x3 := xat HS.out.at_ 3
      have x4 := xat HS.out.at_ 4
      simp only [List.getElem?_toArray, List.getElem?_cons_zero, List.getElem?_cons_succ] at x0 x1 x2 x3 x4
      have hrow := HS.out.kids.tab mov_node
      have hWr := awrite_dav wMulti (l.map respN) rA l.length rc wr (TabP.any hrow) (HSm.out.tree (by rw [HVl.out]; exact hV)) (HE.out.below HBr.out).x
      obtain ⟨X, hX⟩ : ∃ X, X = writeX (davN wMulti (l.map respN)) := ⟨_, rfl⟩
      rw [← hX] at hWr
      have HWr := Lib.hid hWr
      have HB2 := Lib.hid (show buildM l = mapB X by rw [HB.out, if_pos hV, hX]; rfl)
      have HX := Lib.hid hX
      clear hd HAll hV hrow hWr hX hkl HB HPk HSm HE HB0 HS
      go_wp2_with fail
      refine HWr.out.mono ?_
      rintro e w5 ⟨hb5, rfl⟩
      have HB5 := Lib.hid (HBr.out.trans (hb5.mono HBr.out.size))
      clear hb5 HWr x0 x1 x2 x3 x4 HBr
      rcases X with k | s
      · have hk := write_err HX.out.symm
        rw [show errX (Except.error k : Except Int (List UInt8)) = k from rfl, show okOr [] (Except.error k : Except Int (List UInt8)) = [] from rfl]
        clear HX
        rcases hk with rfl | rfl
        · have HF := Lib.hid (show buildM l = .error 5 by rw [HB2.out]; show Except.error (if (5 : Int) = 30 then 1 else 5) = _; rw [if_neg (by decide)])
          clear HB2
          go_wp2
          rw [HEE.out, HF.out]
          exact ⟨HB5.out, rfl⟩
        · have HF := Lib.hid (show buildM l = .error 1 by rw [HB2.out]; rfl)
          clear HB2
          go_wp2
          rw [HEE.out, HF.out]
          exact ⟨HB5.out, rfl⟩
      · rw [show errX (Except.ok s : Except Int (List UInt8)) = 0 from rfl, show okOr [] (Except.ok s : Except Int (List UInt8)) = s from rfl]
        have HF := Lib.hid (show buildM l = .ok s by rw [HB2.out]; rfl)
        clear HX HB2
        go_wp2
        rw [HEE.out, HF.out]
        exact ⟨HB5.out, rfl⟩
    · obtain ⟨hlt, hx, hr⟩ := drop_consA hd
      obtain ⟨b, o, pA, pc, rfl, hbl, e0, e1, hn⟩ := HPk.out i t hx
      have d0 := (HBr.out.cell (p := ⟨b, o + i * 2, none⟩) hbl).trans e0
      have d1 := (HBr.out.cell (p := ⟨b, o + i * 2 + 1, none⟩) hbl).trans e1
      have k1 : (i : Int) < l.length := by omega
      have k2 : (0 : Int) ≤ i := by omega
      have htm := List.mem_of_getElem? hx
      have HTk := Lib.hid (show (l.take (i + 1)).map respN = (l.take i).map respN ++ [respN t] by rw [List.take_add_one, hx]; simp)
      obtain ⟨n1, n2⟩ := all_next hd HAll.out hr
      have hpl := HSm.out.parts t htm
      have HPr := Lib.hid (HSm.out.props t htm)
      have N1 := Lib.hid n1
      have N2 := Lib.hid n2
      have HN := Lib.hid hn
      have hb3 : Below wr.heap.size wr (wr.alloc (.cells #[.string ⟨t.href.toArray⟩, .slice pA t.parts.length pc] 42 (0, 0))) := (Below.refl _ _).alloc (Nat.le_refl _) _
      have HS3 := Lib.hid (HS.out.under hb3)
      have HBw := Lib.hid (HBr.out.trans (hb3.mono HBr.out.size))
      have HP3 := Lib.hid (heap_alloc_new wr (.cells #[.string ⟨t.href.toArray⟩, .slice pA t.parts.length pc] 42 (0, 0)))
      have HGd := Lib.hid (mgood_any t pA pc _ (HN.out.under HBw.out) HPr.out (HE.out.below HBw.out))
      clear e0 e1 hd hx hr hn n1 n2 hb3 HAll
      go_upto_region 5 with (fail)
      generalize wr.alloc (.cells #[.string ⟨t.href.toArray⟩, .slice pA t.parts.length pc] 42 (0, 0)) = w3 at *
      obtain ⟨qp, hqp⟩ : ∃ q, q = wr.heap.size := ⟨_, rfl⟩
      rw [← hqp] at HP3 ⊢
      clear hqp HS HBr d0 d1
      have z0 : w3.cell? ⟨qp, 0, none⟩ = some (.string ⟨t.href.toArray⟩) := xat HP3.out 0
      have z1 : w3.cell? ⟨qp, 1, none⟩ = some (.slice pA t.parts.length pc) := xat HP3.out 1
      go_wp2_with fail
      refine HGd.out.mono ?_
      rintro e w4 ⟨rfl, hb4⟩
      have HBw4 := Lib.hid (HBw.out.trans (hb4.mono HBw.out.size))
      have HS4 := Lib.hid (HS3.out.under hb4)
      have hp4 := (hb4.block _ (xlt HP3.out)).trans HP3.out
      have HP4 := Lib.hid hp4
      clear HS3 HP3 HBw HGd z0 z1 hb4 hp4
      cases hg : goodM t
      · have HF := Lib.hid (show buildM l = .error 1 by rw [HB.out, N2.out hg]; rfl)
        clear hg HB N1 N2
        go_wp2
        rw [HEE.out, HF.out]
        exact ⟨HBw4.out, rfl⟩
      · have HAll2 := Lib.hid (N1.out hg)
        have HRs := Lib.hid (good_reason hg)
        clear hg N1 N2
        have y4 : w4.cell? ⟨q, 4, none⟩ = some (.slice rA i rc) := xat HS4.out.at_ 4
        have z0 : w4.cell? ⟨qp, 0, none⟩ = some (.string ⟨t.href.toArray⟩) := xat HP4.out 0
        have z1 : w4.cell? ⟨qp, 1, none⟩ = some (.slice pA t.parts.length pc) := xat HP4.out 1
        have hql : q < w4.heap.size := xlt HS4.out.at_
        have hpl4 : qp < w4.heap.size := xlt HP4.out
        have HD0 := Lib.hid (below_draws (Below.refl w4.heap.size w4) 1)
        have HRp := Lib.hid (mresponse_any (P := fun k => k ≠ q ∧ some k ≠ (Value.slice rA i rc).ownBlock) t pA pc (w4.drewN 1)
          (HN.out.move ⟨Nat.le_trans HBw4.out.size HD0.out.size, fun k _ hk => ⟨⟨by omega, fun e => by have := (HS4.out.kids.lt k e.symm).1; omega⟩, HBw4.out.block k hk⟩⟩)
          (fun k hk => ⟨by have : w4.heap.size ≤ k := hk; omega, fun e => by have := (HS4.out.kids.lt k e.symm).2; have : w4.heap.size ≤ k := hk; omega⟩) hpl HRs.out (HE.out.below (HBw4.out.trans (HD0.out.mono HBw4.out.size))))
        have HL := Lib.hid (show (((l.take i).map respN).length + 1) * 96 ≤ 140737488355328 by rw [hkl]; omega)
        have HLn := Lib.hid (show ((l.take i).map respN ++ [respN t]).length = i + 1 by rw [List.length_append, hkl]; rfl)
        have HGA := Lib.hid (fun (w5 : World) (hb : Below w4.heap.size w4 w5) => HS4.out.under hb)
        obtain ⟨ks, hks⟩ : ∃ ks, ks = (l.take i).map respN := ⟨_, rfl⟩
        rw [← hks] at HTk HL HLn HGA
        clear hks hkl HS4 HPk HRs HN HPr HB0
        go_wp2_with fail
        go_region_law
          (first
            | (go_simp; go_at_call 20; refine HRp.out.mono ?_; rintro e w5 ⟨hb5', kA5, kc5, rfl, hn5'⟩; have hb5 := HD0.out.trans (hb5'.mono HD0.out.size); have hn5 := Lib.hid hn5'; clear hb5' hn5'; have y5 : w5.cell? ⟨q, 4, none⟩ = some (.slice rA i rc) := (hb5.cell (p := ⟨q, 4, none⟩) hql).trans y4; have hq5 : q < w5.heap.size := Nat.lt_of_lt_of_le hql hb5.size; have hq51 : q < w5.heap.size + 1 := (by omega))
            | (have hga := HGA.out w5 hb5; refine step_appG elemN mov_node rfl (.tmp 20) (.tmp 23) rfl (by rfl) hga.kids #[.string ⟨#[]⟩, .string ⟨#[68, 65, 86, 58]⟩, .string ⟨#[114, 101, 115, 112, 111, 110, 115, 101]⟩, .slice none 0 0, .slice kA5 (respN t).kids.length kc5] (respN t) (dav_node (nm := wResp) hn5.out) w5.heap.size rfl (by rfl) rfl (by simp [Value.oneCell']) HL.out hga.hB ?_; intro v9 w9 hr9 hb9 hg9 hn9; have hq9 := hga.cells hg9; have HC9 := Lib.hid (hga.app hr9 hb9 hg9 hn9); obtain ⟨A9, c9, hv9, -, -⟩ := hr9.form; rw [HLn.out] at hv9; subst hv9; have g4 : w9.cell? ⟨q, 4, none⟩ = some (.slice rA i rc) := xat hq9 4; have h4 := xfree hq9 4; clear hga y5 hq5 hq51 hr9 hb9 hg9 hn9 hq9))
        all_goals
          have HS5 := Lib.hid (show GrT wMulti w.heap.size q (· ≠ q) (fun _ => False) w2 ((l.take (i + 1)).map respN) _ _ from by rw [HTk.out]; exact HC9.out)
          clear HC9 g4 h4
          go_wp2
          go_roundg (l.length - (i + 1))
          case measure => omega
          case rel => exact ⟨i + 1, _, by omega, by go_num, HS5, HAll2⟩
end Go.Proofs.YtcamdnfhnianbaaGreatDoor

import Derived.Test.YtjkiehmjffgnlaaGreatDoorXmlZ18
namespace Go.Proofs.YtjkiehmjffgnlaaGreatDoor
set_option linter.unusedVariables false
set_option linter.unusedSimpArgs false
open Go.RowKit

/-- what good hands back. -/
def GoodP (d left : Nat) (n : NodeT) (w : World) (e : Ending) (w' : World) : Prop := ∃ z : Int, e = .returned (.tuple #[.int .i64 z, .bool (goodG d left n)]) ∧ (goodG d left n = true → z = (left : Int) - countN n) ∧ Below w.heap.size w w'
theorem row_at {w : World} {b o j : Nat} {A : Option Addr} {rows : Nat → List Value} {x : NodeT} {n : Nat} {v : Value} (hc : ∀ j, j < n → ∃ b o, A = some ⟨b, o, none⟩ ∧ b < w.heap.size ∧ (rows j).length = 5 ∧ ∀ k u, (rows j)[k]? = some u → w.cell? ⟨b, o + (j * 5 + k), none⟩ = some u) (hj : j < n) (hk : NodeP anyB w (rows j) x) :
    ∃ b o aA ac kA kc, A = some ⟨b, o, none⟩ ∧ b < w.heap.size ∧ rows j = [.string ⟨x.text.toArray⟩, .string ⟨x.space.toArray⟩, .string ⟨x.name.toArray⟩, .slice aA x.attrs.length ac, .slice kA x.kids.length kc] ∧
      w.cell? ⟨b, o + j * 5, none⟩ = some (.string ⟨x.text.toArray⟩) ∧ w.cell? ⟨b, o + j * 5 + 1, none⟩ = some (.string ⟨x.space.toArray⟩) ∧ w.cell? ⟨b, o + j * 5 + 2, none⟩ = some (.string ⟨x.name.toArray⟩) ∧ w.cell? ⟨b, o + j * 5 + 3, none⟩ = some (.slice aA x.attrs.length ac) ∧ w.cell? ⟨b, o + j * 5 + 4, none⟩ = some (.slice kA x.kids.length kc) := by
  obtain ⟨b, o, hA, hb, hl, hcell⟩ := hc j hj
  obtain ⟨av, kv, hr, ha, hkk⟩ := hk.parts
  obtain ⟨aA, ac, rfl⟩ := tab_shape ha.1
  obtain ⟨kA, kc, rfl⟩ := tab_shape hkk.1
  rw [hr] at hcell
  exact ⟨b, o, aA, ac, kA, kc, hA, hb, hr, hcell 0 _ rfl, hcell 1 _ rfl, hcell 2 _ rfl, hcell 3 _ rfl, hcell 4 _ rfl⟩
set_option maxHeartbeats 32000000 in
set_option maxRecDepth 100000 in
set_option linter.unusedSimpArgs false in
theorem xgood_text (t s : List UInt8) (ats : List AttrT) (ks : List NodeT) (avA A : Option Addr) (avc cap d lf : Nat) (w1 : World) (st : t.length ≤ 2000000) (ss : s.length ≤ 2000000) (sa : ats.length ≤ 2000000) (sk : ks.length ≤ 2000000) (hac : ats.length ≤ avc) (ham : avc ≤ 2 ^ 63 - 1) (hl : ks.length ≤ cap) (hm : cap ≤ 2 ^ 63 - 1) (hle : lf + 1 ≤ 4096) (hE : XEnv w1) :
    Calls Tryz.prog 92 #[.agg #[.string ⟨t.toArray⟩, .string ⟨s.toArray⟩, .string ⟨#[]⟩, .slice avA ats.length avc, .slice A ks.length cap], .int .i64 d, .int .i64 (lf + 1 : Nat)] w1 (GoodP d (lf + 1) (.mk t s [] ats ks) w1) := by
  obtain ⟨E, hEE⟩ : ∃ E, E = GoodP d (lf + 1) (.mk t s [] ats ks) w1 := ⟨_, rfl⟩
  rw [← hEE]
  have HEE := Lib.hid hEE
  clear hEE
  have HB0 := Lib.hid (show Below w1.heap.size w1 (w1.alloc (.cells #[.string ⟨t.toArray⟩, .string ⟨s.toArray⟩, .string ⟨#[]⟩, .slice avA ats.length avc, .slice A ks.length cap] 46 (0, 0))) from (Below.refl _ _).alloc (Nat.le_refl _) _)
  have HQ0 := Lib.hid (heap_alloc_new w1 (.cells #[.string ⟨t.toArray⟩, .string ⟨s.toArray⟩, .string ⟨#[]⟩, .slice avA ats.length avc, .slice A ks.length cap] 46 (0, 0)))
  have HLt := Lib.hid (fun (u : List UInt8) wx (hu : u.length ≤ 2000000) (hb : Below w1.heap.size w1 wx) => xletters_any u wx (by omega) (hE.below hb))
  clear hE
  have hlf : ((lf : Int) + 1 - 1) = lf := by omega
  have hlf0 : ¬ ((lf : Int) < 0) := by omega
  have HGT := Lib.hid (@goodG_text d (lf + 1) t s ats ks (by omega))
  have HCN := Lib.hid (show ks = [] → ((lf + 1 : Nat) : Int) - countN (.mk t s [] ats ks) = lf by intro h; subst h; rw [countN, countL]; omega)
  have fin : ∀ (w' : World) (B : Bool) (e : Ending), B = goodG d (lf + 1) (.mk t s [] ats ks) → e = .returned (.tuple #[.int .i64 (lf : Int), .bool B]) → Below w1.heap.size w1 w' → E e w' := fun w' B e hB he hb => by
    rw [HEE.out]
    subst hB
    refine ⟨lf, he, fun h => ?_, hb⟩
    rw [HGT.out] at h
    simp only [Bool.and_eq_true] at h
    have hk := h.2
    cases ks with
    | nil => exact (HCN.out rfl).symm
    | cons => cases hk
  have HFin := Lib.hid fin
  clear fin HCN HEE
  go_enter Tryz.func92, Tryz.ntmps92
  go_wp2_with fail
  have hbx : Below w1.heap.size w1 _ := HB0.out
  have hqx := HQ0.out
  generalize w1.alloc (.cells #[.string ⟨t.toArray⟩, .string ⟨s.toArray⟩, .string ⟨#[]⟩, .slice avA ats.length avc, .slice A ks.length cap] 46 (0, 0)) = w2 at *
  obtain ⟨q, hqe⟩ : ∃ q, q = w1.heap.size := ⟨_, rfl⟩
  rw [← hqe] at hqx ⊢
  have hql : q < w2.heap.size := xlt hqx
  have HS := Lib.hid (fun (wx : World) (h : Below w2.heap.size w2 wx) => (⟨(h.cell (p := ⟨q, 0, none⟩) hql).trans (xat hqx 0), (h.cell (p := ⟨q, 1, none⟩) hql).trans (xat hqx 1), (h.cell (p := ⟨q, 3, none⟩) hql).trans (xat hqx 3), (h.cell (p := ⟨q, 4, none⟩) hql).trans (xat hqx 4), h⟩ :
    wx.cell? ⟨q, 0, none⟩ = some (.string ⟨t.toArray⟩) ∧ wx.cell? ⟨q, 1, none⟩ = some (.string ⟨s.toArray⟩) ∧ wx.cell? ⟨q, 3, none⟩ = some (.slice avA ats.length avc) ∧ wx.cell? ⟨q, 4, none⟩ = some (.slice A ks.length cap) ∧ Below w2.heap.size w2 wx))
  have HTr := Lib.hid (fun (wx : World) (h : Below w2.heap.size w2 wx) => hbx.trans (h.mono hbx.size))
  have HTb := Lib.hid (fun (wx wy : World) (h : Below w2.heap.size w2 wx) (hb : Below wx.heap.size wx wy) => (h.trans (hb.mono h.size) : Below w2.heap.size w2 wy))
  have HL2 := Lib.hid (fun (wx : World) (h : Below w2.heap.size w2 wx) => HLt.out t wx st (HTr.out wx h))
  have hT0 : Below w2.heap.size w2 w2.drew := below_draws (Below.refl _ _) 1
  clear HLt HB0 HQ0 hbx hqx hqe
  by_cases ht : t = []
  · have HB := Lib.hid (show false = goodG d (lf + 1) (.mk t s [] ats ks) by rw [HGT.out, decide_eq_true ht]; rfl)
    subst ht
    clear HGT HL2 HTb
    obtain ⟨x0, x1, x3, x4, -⟩ := HS.out _ (Below.refl _ _)
    go_quiet (fail)
    all_goals
      go_wp2
      exact HFin.out _ _ _ HB.out rfl (HTr.out _ (below_draws (Below.refl _ _) _))
  have b0 : t.isEmpty = false := by cases t with | nil => exact absurd rfl ht | cons => rfl
  have hnt : ¬ (t = []) := ht
  obtain ⟨x0, x1, x3, x4, -⟩ := HS.out _ (Below.refl _ _)
  by_cases hg : lettersX t = true ∧ s = [] ∧ ats = [] ∧ ks = []
  · obtain ⟨hL, rfl, rfl, rfl⟩ := hg
    have HB := Lib.hid (show true = goodG d (lf + 1) (.mk t [] [] [] []) by rw [HGT.out, hL, decide_eq_false hnt]; rfl)
    rw [hL] at HL2
    clear HGT hnt ht hL
    first | go_region_with (go_at_call 57; refine (HL2.out _ (by assumption)).mono ?_; rintro e w5 ⟨rfl, hb5⟩; have hT5 := HTb.out _ _ hT0 hb5; obtain ⟨y0, y1, y3, y4, -⟩ := HS.out _ hT5) | fail
    all_goals
      go_wp2
      go_ret2
      exact HFin.out _ _ _ HB.out rfl (HTr.out _ (by assumption))
  have HB := Lib.hid (show false = goodG d (lf + 1) (.mk t s [] ats ks) by
    rw [HGT.out]
    symm
    rw [Bool.eq_false_iff]
    intro h
    simp only [Bool.and_eq_true, decide_eq_true_eq] at h
    refine hg ⟨h.1.1.1.2, h.1.1.2, h.1.2, ?_⟩
    cases ks with
    | nil => rfl
    | cons => cases h.2)
  cases hL : lettersX t
  · rw [hL] at HL2
    clear HGT hnt ht hL hg
    first | go_region_with (go_at_call 57; refine (HL2.out _ (by assumption)).mono ?_; rintro e w5 ⟨rfl, hb5⟩; have hT5 := HTb.out _ _ hT0 hb5) | fail
    all_goals
      go_wp2
      go_ret2
      exact HFin.out _ _ _ HB.out rfl (HTr.out _ (by assumption))
  rw [hL] at HL2
  by_cases hs : s = []
  rotate_left
  · have b1 : s.isEmpty = false := by cases s with | nil => exact absurd rfl hs | cons => rfl
    clear HGT hnt ht hL hg hs
    first | go_region_with (go_at_call 57; refine (HL2.out _ (by assumption)).mono ?_; rintro e w5 ⟨rfl, hb5⟩; have hT5 := HTb.out _ _ hT0 hb5; obtain ⟨y0, y1, y3, y4, -⟩ := HS.out _ hT5) | fail
    all_goals
      go_wp2
      go_ret2
      exact HFin.out _ _ _ HB.out rfl (HTr.out _ (by assumption))
  subst hs
  by_cases ha : ats = []
  rotate_left
  · have b1 : ((ats.length : Int) == 0) = false := by rw [beq_eq_false_iff_ne]; have := List.length_pos_iff.2 ha; omega
    clear HGT hnt ht hL hg ha
    first | go_region_with (go_at_call 57; refine (HL2.out _ (by assumption)).mono ?_; rintro e w5 ⟨rfl, hb5⟩; have hT5 := HTb.out _ _ hT0 hb5; obtain ⟨y0, y1, y3, y4, -⟩ := HS.out _ hT5) | fail
    all_goals
      go_wp2
      go_ret2
      exact HFin.out _ _ _ HB.out rfl (HTr.out _ (by assumption))
  subst ha
  have hk : ks ≠ [] := fun h => hg ⟨hL, rfl, rfl, h⟩
  have b1 : ((ks.length : Int) == 0) = false := by rw [beq_eq_false_iff_ne]; have := List.length_pos_iff.2 hk; omega
  clear HGT hnt ht hL hg hk
  first | go_region_with (go_at_call 57; refine (HL2.out _ (by assumption)).mono ?_; rintro e w5 ⟨rfl, hb5⟩; have hT5 := HTb.out _ _ hT0 hb5; obtain ⟨y0, y1, y3, y4, -⟩ := HS.out _ hT5) | fail
  all_goals
    go_wp2
    go_ret2
    exact HFin.out _ _ _ HB.out rfl (HTr.out _ (by assumption))
end Go.Proofs.YtjkiehmjffgnlaaGreatDoor
namespace Go.Proofs.YtjkiehmjffgnlaaGreatDoor
set_option linter.unusedVariables false
set_option linter.unusedSimpArgs false
open Go.RowKit

set_option maxHeartbeats 32000000 in
set_option maxRecDepth 100000 in
set_option linter.unusedSimpArgs false in
theorem xgood_any {w : World} {cs : List Value} {n : NodeT} (h : NodeP anyB w cs n) : SmallN 2000000 n → ∀ (d left : Nat) (w1 : World), Below w.heap.size w w1 → XEnv w1 → d ≤ 16 → left ≤ 4096 → Calls Tryz.prog 92 #[.agg cs.toArray, .int .i64 d, .int .i64 left] w1 (GoodP d left n w1) := by
  induction h with
  | mk t s n ats ks av A cap rows ha hl hm hA hc hk ih =>
  intro hsm d left w1 hb1 hE hd hle
  obtain ⟨st, ss, sn, sa, sx, sk, skk⟩ := hsm.parts
  replace st : t.length ≤ 2000000 := st
  replace ss : s.length ≤ 2000000 := ss
  replace sn : n.length ≤ 2000000 := sn
  replace sa : ats.length ≤ 2000000 := sa
  replace sk : ks.length ≤ 2000000 := sk
  replace sx : ∀ a ∈ ats, a.name.length ≤ 2000000 ∧ a.value.length ≤ 2000000 := sx
  replace skk : ∀ k ∈ ks, SmallN 2000000 k := skk
  obtain ⟨avA, avc, rfl⟩ := tab_shape ha.1
  show Calls Tryz.prog 92 #[.agg #[.string ⟨t.toArray⟩, .string ⟨s.toArray⟩, .string ⟨n.toArray⟩, .slice avA ats.length avc, .slice A ks.length cap], .int .i64 d, .int .i64 left] w1 _
  obtain ⟨E, hEE⟩ : ∃ E, E = GoodP d left (.mk t s n ats ks) w1 := ⟨_, rfl⟩
  rw [← hEE]
  have HEE := Lib.hid hEE
  clear hEE hsm
  unfold maxLen at hm
  obtain ⟨-, hac, ham, -⟩ := attrs_at ha
  unfold maxLen at ham
  have hb0 : Below w1.heap.size w1 (w1.alloc (.cells #[.string ⟨t.toArray⟩, .string ⟨s.toArray⟩, .string ⟨n.toArray⟩, .slice avA ats.length avc, .slice A ks.length cap] 46 (0, 0))) := (Below.refl _ _).alloc (Nat.le_refl _) _
  have hq := heap_alloc_new w1 (.cells #[.string ⟨t.toArray⟩, .string ⟨s.toArray⟩, .string ⟨n.toArray⟩, .slice avA ats.length avc, .slice A ks.length cap] 46 (0, 0))
  rcases Nat.eq_zero_or_pos left with h0 | h0
  · subst h0
    have HF := Lib.hid (goodG_zero (d := d) (n := .mk t s n ats ks))
    have HB0 := Lib.hid hb0
    clear hq hb0 ih hk hc hA ha hb1 sx skk
    go_enter Tryz.func92, Tryz.ntmps92
    go_wp2
    rw [HEE.out]
    exact ⟨0, by rw [HF.out]; rfl, (fun h => by rw [HF.out] at h; cases h), HB0.out⟩
  obtain ⟨lf, rfl⟩ : ∃ lf, left = lf + 1 := ⟨left - 1, by omega⟩
  have HLt := Lib.hid (fun (u : List UInt8) wx (hu : u.length ≤ 2000000) (hb : Below w1.heap.size w1 wx) => xletters_any u wx (by omega) (hE.below hb))
  have HSh := Lib.hid (fun (u : List UInt8) wx (hu : u.length ≤ 2000000) (hb : Below w1.heap.size w1 wx) => xshort_any u wx (by omega) (hE.below hb))
  have HAt := Lib.hid (fun wx (hb : Below w1.heap.size w1 wx) => xattrsOk_any (.slice avA ats.length avc) ats wx (ha.move (Moves.below (hb1.trans (hb.mono hb1.size)) fun _ _ _ => trivial)) sa sx (hE.below hb))
  have HB0 := Lib.hid hb0
  have HQ0 := Lib.hid hq
  have HIH := Lib.hid (fun j x (hx : ks[j]? = some x) (d left : Nat) wx (hb : Below w1.heap.size w1 wx) (hd : d ≤ 16) (hle : left ≤ 4096) => ih j x hx (skk x (List.mem_of_getElem? hx)) d left wx (hb1.trans (hb.mono hb1.size)) (hE.below hb) hd hle)
  have HRow := Lib.hid (fun j x (hx : ks[j]? = some x) => row_at (b := 0) (o := 0) (v := .pointer none) hc (List.getElem?_eq_some_iff.1 hx).1 (hk j x hx))
  have HB1 := Lib.hid hb1
  have HTxt := Lib.hid (fun (hn : n = []) => by subst hn; exact xgood_text t s ats ks avA A avc cap d lf w1 st ss sa sk hac ham hl hm hle hE)
  clear hq hb0 ih hk hc hA ha hb1 sx skk hE
  have hlf : ((lf : Int) + 1 - 1) = lf := by omega
  have hlf0 : ¬ ((lf : Int) < 0) := by omega
  by_cases hn : n = []
  · rw [HEE.out]
    have h := HTxt.out hn
    subst hn
    exact h
  · have HGE := Lib.hid (@goodG_elem d (lf + 1) t s n ats ks hn (by omega))
    have hkg : ∀ lr : Nat, kidsG (d + 1) lf false ks = some lr → (lr : Int) = ((lf + 1 : Nat) : Int) - countN (.mk t s n ats ks) := fun lr h => by
      rw [kidsG_eq] at h
      split at h
      · rename_i h4
        injection h with h
        rw [countN]
        omega
      · cases h
    have HKG := Lib.hid hkg
    clear hkg
    have b2 : n.isEmpty = false := by cases n with | nil => exact absurd rfl hn | cons => rfl
    have no : ∀ w', goodG d (lf + 1) (.mk t s n ats ks) = false → Below w1.heap.size w1 w' → E (.returned (.tuple #[.int .i64 0, .bool false])) w' := fun w' hf hb => by
      rw [HEE.out]
      exact ⟨0, by rw [hf], (fun h => by rw [hf] at h; cases h), hb⟩
    have yes : ∀ (w' : World) (z : Nat), goodG d (lf + 1) (.mk t s n ats ks) = true → (z : Int) = ((lf + 1 : Nat) : Int) - countN (.mk t s n ats ks) → Below w1.heap.size w1 w' → E (.returned (.tuple #[.int .i64 z, .bool true])) w' := fun w' z hf hz hb => by
      rw [HEE.out]
      exact ⟨z, by rw [hf], (fun _ => hz), hb⟩
    have HNo := Lib.hid no
    have HYes := Lib.hid yes
    clear no yes hn HTxt HEE
    have hbx := HB0.out
    have hqx := HQ0.out
    obtain ⟨q, hqe⟩ : ∃ q, q = w1.heap.size := ⟨_, rfl⟩
    by_cases h16 : d < 16
    rotate_left
    · have HF := Lib.hid (show goodG d (lf + 1) (.mk t s n ats ks) = false by rw [HGE.out, decide_eq_false h16]; rfl)
      have h16i : (16 : Int) ≤ (d : Int) := by omega
      clear HGE HKG HSh HLt HAt HIH HRow hbx hqx hqe HQ0
      go_enter Tryz.func92, Tryz.ntmps92
      go_wp2
      exact HNo.out _ HF.out HB0.out
    have h16i : ¬ ((16 : Int) ≤ (d : Int)) := by omega
    by_cases ht : t = []
    rotate_left
    · have HF := Lib.hid (show goodG d (lf + 1) (.mk t s n ats ks) = false by rw [HGE.out, decide_eq_false ht]; simp)
      have b0 : t.isEmpty = false := by cases t with | nil => exact absurd rfl ht | cons => rfl
      clear HGE HKG HSh HLt HAt HIH HRow hbx hqx hqe HQ0 ht
      go_enter Tryz.func92, Tryz.ntmps92
      go_wp2
      exact HNo.out _ HF.out HB0.out
    have HT := Lib.hid ht
    have b0 : t.isEmpty = true := by rw [ht]; rfl
    clear ht
    go_enter Tryz.func92, Tryz.ntmps92
    go_wp2_with fail
    generalize w1.alloc (.cells #[.string ⟨t.toArray⟩, .string ⟨s.toArray⟩, .string ⟨n.toArray⟩, .slice avA ats.length avc, .slice A ks.length cap] 46 (0, 0)) = w2 at *
    rw [← hqe] at hqx ⊢
    have hqw : w1.heap.size ≤ q := Nat.le_of_eq hqe.symm
    clear hqe HB0 HQ0
    have HBX := Lib.hid hbx
    have HQX := Lib.hid hqx
    clear hbx hqx
    refine (HSh.out n w2 sn HBX.out).mono ?_
    rintro e w3 ⟨rfl, hb3⟩
    have HB3 := Lib.hid (HBX.out.trans (hb3.mono HBX.out.size))
    have HQ3 := Lib.hid ((hb3.block q (xlt HQX.out)).trans HQX.out)
    clear hb3 HBX HQX HSh
    cases hs : shortX n
    case false =>
      have HF := Lib.hid (show goodG d (lf + 1) (.mk t s n ats ks) = false by rw [HGE.out, hs]; simp)
      clear HGE HKG hs
      go_wp2
      exact HNo.out _ HF.out HB3.out
    have x1 := xat HQ3.out 1
    simp only [List.getElem?_toArray, List.getElem?_cons_zero, List.getElem?_cons_succ] at x1
    have HSX := Lib.hid hs
    clear hs
    by_cases h60 : s.length ≤ 60
    rotate_left
    · have HF := Lib.hid (show goodG d (lf + 1) (.mk t s n ats ks) = false by rw [HGE.out, decide_eq_false h60]; simp)
      have h60i : (60 : Int) < (s.length : Int) := by omega
      clear HGE HKG h60
      go_wp2
      exact HNo.out _ HF.out HB3.out
    have h60i : ¬ ((60 : Int) < (s.length : Int)) := by omega
    go_wp2_with fail
    refine (HLt.out s w3 ss HB3.out).mono ?_
    rintro e w4 ⟨rfl, hb4⟩
    have HB4 := Lib.hid (HB3.out.trans (hb4.mono HB3.out.size))
    have HQ4 := Lib.hid ((hb4.block q (xlt HQ3.out)).trans HQ3.out)
    clear hb4 HB3 HQ3 HLt x1
    cases hl2 : lettersX s
    case false =>
      have HF := Lib.hid (show goodG d (lf + 1) (.mk t s n ats ks) = false by rw [HGE.out, hl2]; simp)
      clear HGE HKG hl2
      go_wp2
      exact HNo.out _ HF.out HB4.out
    have x3 := xat HQ4.out 3
    simp only [List.getElem?_toArray, List.getElem?_cons_zero, List.getElem?_cons_succ] at x3
    have HLX := Lib.hid hl2
    clear hl2
    go_wp2_with fail
    refine (HAt.out w4 HB4.out).mono ?_
    rintro e w5 ⟨rfl, hb5⟩
    have HB5 := Lib.hid (HB4.out.trans (hb5.mono HB4.out.size))
    have HQ5 := Lib.hid ((hb5.block q (xlt HQ4.out)).trans HQ4.out)
    clear hb5 HB4 HQ4 HAt x3
    cases ha2 : attrsOk [] ats
    case false =>
      have HF := Lib.hid (show goodG d (lf + 1) (.mk t s n ats ks) = false by rw [HGE.out, ha2]; simp)
      clear HGE HKG ha2
      go_wp2
      exact HNo.out _ HF.out HB5.out
    have HG2 := Lib.hid (show goodG d (lf + 1) (.mk t s n ats ks) = (kidsG (d + 1) lf false ks).isSome by rw [HGE.out, HT.out, HSX.out, HLX.out, ha2, decide_eq_true h16, decide_eq_true h60]; simp)
    have x4 := xat HQ5.out 4
    simp only [List.getElem?_toArray, List.getElem?_cons_zero, List.getElem?_cons_succ] at x4
    clear HGE HSX HLX ha2
    go_wp2_with fail
    obtain ⟨KS, hKS⟩ : ∃ K, K = kidsG (d + 1) lf false ks := ⟨_, rfl⟩
    rw [← hKS] at HG2 HKG
    have HK0 := Lib.hid hKS
    clear hKS x4
    go_loopg [2, 78] ks.length (fun g l i wr => ∃ (k lr : Nat) (pt : Bool), k + g = ks.length ∧ i = .int .i64 k ∧ l = .int .i64 lr ∧ lr ≤ 4096 ∧ Hid (KS = kidsG (d + 1) lr pt (ks.drop k)) ∧ Hid (∀ j x, k = j + 1 → ks[j]? = some x → pt = decide (x.name = [])) ∧ (k = 0 → pt = false) ∧ Hid (Below w5.heap.size w5 wr))
    case atStart => exact ⟨0, lf, false, by omega, rfl, rfl, by omega, HK0, (fun j x h => by omega), (fun _ => rfl), Below.refl _ _⟩
    case round =>
      obtain ⟨k, lr, pt, hkg, rfl, rfl, hlr, HK, HPt, hp0, HBr⟩ := hrel
      have HB6 := Lib.hid (HB5.out.trans (HBr.out.mono HB5.out.size))
      have HQ6 := Lib.hid ((HBr.out.block q (xlt HQ5.out)).trans HQ5.out)
      have x4 := xat HQ6.out 4
      simp only [List.getElem?_toArray, List.getElem?_cons_zero, List.getElem?_cons_succ] at x4
      clear HK0
      rcases hd : ks.drop k with _ | ⟨x, r⟩
      · have hk2 : k = ks.length := by have := drop_nil hd; omega
        have HKE := Lib.hid (show KS = some lr by rw [HK.out, hd]; rfl)
        have HF := Lib.hid (show goodG d (lf + 1) (.mk t s n ats ks) = true by rw [HG2.out, HKE.out]; rfl)
        have HZ := Lib.hid (HKG.out lr HKE.out)
        clear hd HK HPt HIH HRow
        subst hk2
        go_wp2
        exact HYes.out _ _ HF.out HZ.out HB6.out
      obtain ⟨hlt, hx, hr⟩ := drop_consA hd
      have hk1 : kidsG (d + 1) lr pt (x :: r) = if pt = true ∧ x.name = [] then none else if goodN (d + 1) x = true ∧ countN x ≤ lr then kidsG (d + 1) (lr - countN x) (decide (x.name = [])) r else none := by rw [kidsG]
      rw [hd, hk1, ← hr] at HK
      obtain ⟨b, o, aA, ac, kA, kc, rfl, hbl, hrow, e0, e1, e2, e3, e4⟩ := HRow.out k x hx
      have hbw6 : ∀ j, wr.cell? ⟨b, j, none⟩ = w.cell? ⟨b, j, none⟩ := fun j => (HB1.out.trans (HB6.out.mono HB1.out.size)).cell (p := ⟨b, j, none⟩) hbl
      have HBW := Lib.hid hbw6
      have d0 := (hbw6 _).trans e0
      have d1 := (hbw6 _).trans e1
      have d2 := (hbw6 _).trans e2
      have d3 := (hbw6 _).trans e3
      have d4 := (hbw6 _).trans e4
      have k1 : (k : Int) < ks.length := by omega
      have k2 : (0 : Int) ≤ k := by omega
      have HIx := Lib.hid (fun (w' : World) (hb : Below w1.heap.size w1 w') => HIH.out k x hx (d + 1) lr w' hb (by omega) hlr)
      rw [hrow] at HIx
      have HX := Lib.hid hx
      clear hd hx hk1 hr hrow e0 e1 e2 e3 e4 hbw6
      go_upto_region 11 with (fail)
      have hc7 := heap_alloc_new wr (.cells #[.string ⟨x.text.toArray⟩, .string ⟨x.space.toArray⟩, .string ⟨x.name.toArray⟩, .slice aA x.attrs.length ac, .slice kA x.kids.length kc] 46 (0, 0))
      have hb7 : Below wr.heap.size wr (wr.alloc (.cells #[.string ⟨x.text.toArray⟩, .string ⟨x.space.toArray⟩, .string ⟨x.name.toArray⟩, .slice aA x.attrs.length ac, .slice kA x.kids.length kc] 46 (0, 0))) := (Below.refl _ _).alloc (Nat.le_refl _) _
      have hbr : b < wr.heap.size := Nat.lt_of_lt_of_le hbl (HB1.out.trans (HB6.out.mono HB1.out.size)).size
      generalize wr.alloc (.cells #[.string ⟨x.text.toArray⟩, .string ⟨x.space.toArray⟩, .string ⟨x.name.toArray⟩, .slice aA x.attrs.length ac, .slice kA x.kids.length kc] 46 (0, 0)) = w7 at *
      obtain ⟨p, hp⟩ : ∃ p, p = wr.heap.size := ⟨_, rfl⟩
      rw [← hp] at hc7 ⊢
      have HB7 := Lib.hid (HB6.out.trans (hb7.mono HB6.out.size))
      have HBr7 := Lib.hid (HBr.out.trans (hb7.mono HBr.out.size))
      have HQ7 := Lib.hid ((hb7.block q (xlt HQ6.out)).trans HQ6.out)
      have HBW7 := Lib.hid (fun j => (hb7.cell (p := ⟨b, j, none⟩) hbr).trans (HBW.out j))
      have HC7 := Lib.hid hc7
      clear hp hc7 hb7 HB6 HBr HQ6 HBW x4 d0 d1 d2 d3 d4
      have y2 := xat HC7.out 2
      have y4 := xat HQ7.out 4
      simp only [List.getElem?_toArray, List.getElem?_cons_zero, List.getElem?_cons_succ] at y2 y4
      obtain ⟨okb, hok⟩ : ∃ okb, okb = !(pt && decide (x.name = [])) := ⟨_, rfl⟩
      have HOK := Lib.hid hok
      clear hok
      go_cut [10] (fun v wc => w7 = wc ∧ v = .bool okb)
      case first =>
        by_cases hnm : x.name = []
        · have b5 : x.name.isEmpty = true := by rw [hnm]; rfl
          rcases Nat.eq_zero_or_pos k with hk0 | hk0
          · have ho : okb = true := by rw [HOK.out, hp0 hk0]; rfl
            have ik : ((k : Int) == 0) = true := by rw [hk0]; rfl
            clear hnm HPt hp0
            go_wp2
            go_meet
            exact ⟨rfl, by rw [ho]⟩
          · obtain ⟨j, rfl⟩ : ∃ j, k = j + 1 := ⟨k - 1, by omega⟩
            have hj : j < ks.length := by omega
            have hxj := List.getElem?_eq_getElem hj
            generalize ks[j] = xj at hxj
            have hpt := HPt.out j xj rfl hxj
            obtain ⟨b', o', aA', ac', kA', kc', hA', -, -, -, -, e2, -, -⟩ := HRow.out j xj hxj
            injection hA' with hA'
            injection hA' with h1 h2
            subst h1 h2
            have f2 := (HBW7.out _).trans e2
            have ho : okb = !decide (xj.name = []) := by rw [HOK.out, hpt, decide_eq_true hnm, Bool.and_true]
            have ik : (((j + 1 : Nat) : Int) == 0) = false := by rw [beq_eq_false_iff_ne]; omega
            have ij : ((j + 1 : Nat) : Int) - 1 = j := by omega
            have ij2 : (j : Int) + 1 - 1 = j := by omega
            have ik2 : ((j : Int) + 1 == 0) = false := by rw [beq_eq_false_iff_ne]; omega
            have j1 : (j : Int) < ks.length := by omega
            clear hnm HPt hp0 hxj hpt e2
            by_cases hnj : xj.name = []
            · have b6 : xj.name.isEmpty = true := by rw [hnj]; rfl
              rw [decide_eq_true hnj] at ho
              clear hnj
              go_wp2
              go_meet
              exact ⟨rfl, by rw [ho]; rfl⟩
            · have b6 : xj.name.isEmpty = false := by cases hh : xj.name with | nil => exact absurd hh hnj | cons => rfl
              rw [decide_eq_false hnj] at ho
              clear hnj
              go_wp2
              go_meet
              exact ⟨rfl, by rw [ho]; rfl⟩
        · have b5 : x.name.isEmpty = false := by cases hh : x.name with | nil => exact absurd hh hnm | cons => rfl
          have ho : okb = true := by rw [HOK.out, decide_eq_false hnm, Bool.and_false]; rfl
          rcases Nat.eq_zero_or_pos k with hk0 | hk0
          · have ik : ((k : Int) == 0) = true := by rw [hk0]; rfl
            clear hnm HPt hp0
            go_wp2
            go_meet
            exact ⟨rfl, by rw [ho]⟩
          · have ik : ((k : Int) == 0) = false := by rw [beq_eq_false_iff_ne]; omega
            clear hnm HPt hp0
            go_wp2
            go_meet
            exact ⟨rfl, by rw [ho]⟩
      case rest =>
      obtain ⟨rfl, rfl⟩ := hcut
      have HNb := Lib.hid (show okb = false → pt = true ∧ x.name = [] from fun h => by
        have := HOK.out
        rw [h] at this
        cases pt with
        | false => simp at this
        | true => exact ⟨rfl, by simpa using this⟩)
      have HNy := Lib.hid (show okb = true → ¬ (pt = true ∧ x.name = []) from fun h hh => by
        have := HOK.out
        rw [h, hh.1, decide_eq_true hh.2] at this
        cases this)
      clear HOK
      cases okb
      · have HKE := Lib.hid (show KS = none by rw [HK.out, if_pos (HNb.out rfl)])
        have HF := Lib.hid (show goodG d (lf + 1) (.mk t s n ats ks) = false by rw [HG2.out, HKE.out]; rfl)
        clear HK HPt HIH HRow HIx HNb HNy
        go_wp2
        exact HNo.out _ HF.out HB7.out
      have HK2 := Lib.hid (show KS = if goodN (d + 1) x = true ∧ countN x ≤ lr then kidsG (d + 1) (lr - countN x) (decide (x.name = [])) (ks.drop (k + 1)) else none by rw [HK.out, if_neg (HNy.out rfl)])
      have ed : ((d + 1 : Nat) : Int) = (d : Int) + 1 := by omega
      rw [ed] at HIx
      have y0 := xat HC7.out 0
      have y1 := xat HC7.out 1
      have y3 := xat HC7.out 3
      have y5 := xat HC7.out 4
      simp only [List.getElem?_toArray, List.getElem?_cons_zero, List.getElem?_cons_succ] at y0 y1 y3 y5
      clear HK HNb HNy ed
      go_wp2_with fail
      refine (HIx.out w7 HB7.out).mono ?_
      rintro e w8 ⟨z, rfl, hz, hb8⟩
      have HB8 := Lib.hid (HB7.out.trans (hb8.mono HB7.out.size))
      have HBr8 := Lib.hid (HBr7.out.trans (hb8.mono HBr7.out.size))
      clear hb8 y0 y1 y2 y3 y4 y5 HC7 HQ7 HB7 HBW7 HBr7
      cases hG : goodG (d + 1) lr x
      · have HKE := Lib.hid (show KS = none by
          rw [HK2.out, if_neg]
          rintro ⟨h1, h2⟩
          unfold goodG at hG
          rw [h1, decide_eq_true h2] at hG
          cases hG)
        have HF := Lib.hid (show goodG d (lf + 1) (.mk t s n ats ks) = false by rw [HG2.out, HKE.out]; rfl)
        clear HK2 HPt HIH HRow HIx hG hz
        go_wp2
        exact HNo.out _ HF.out HB8.out
      · have hz2 := hz hG
        have hc : goodN (d + 1) x = true ∧ countN x ≤ lr := by
          unfold goodG at hG
          rw [Bool.and_eq_true, decide_eq_true_eq] at hG
          exact hG
        have HKE := Lib.hid (show KS = kidsG (d + 1) (lr - countN x) (decide (x.name = [])) (ks.drop (k + 1)) by rw [HK2.out, if_pos hc])
        have hcl := hc.2
        have hzn : z = ((lr - countN x : Nat) : Int) := by omega
        subst hzn
        clear HK2 hG hz hz2 hc HIx
        go_wp2
        go_roundg (gk - 1)
        case measure => omega
        case rel => exact ⟨k + 1, lr - countN x, _, by omega, by go_num, rfl, by omega, HKE, Lib.hid (fun j y hj hy => by
          obtain rfl : j = k := by omega
          have := HX.out
          rw [this] at hy
          injection hy with hy
          rw [hy]), (fun h => by omega), HBr8⟩
end Go.Proofs.YtjkiehmjffgnlaaGreatDoor

/-
  Parts of the walks and plain laws of layer 10, joined: MulO MulP MulQ MulR MulS. Conditions: as each theorem states them.
-/
import Derived.Test.YtcamdnfhnianbaaGreatDoorXmlZ44
import Derived.Test.YtcamdnfhnianbaaGreatDoorXmlZ27
import Derived.Test.YtcamdnfhnianbaaGreatDoorXmlZ42
/-! MulO -/
namespace Go.Proofs.YtcamdnfhnianbaaGreatDoor
set_option linter.unusedVariables false
set_option linter.unusedSimpArgs false
open Go.RowKit

/-- a number that is T, or past 4096 and at most T. -/
def CountIs (z T : Nat) : Prop := z = T ∨ (4096 < z ∧ z ≤ T)
def CountP (T : Nat) (w : World) (e : Ending) (w' : World) : Prop := Below w.heap.size w w' ∧ ∃ z : Nat, e = .returned (.int .i64 z) ∧ CountIs z T
theorem countL_take : ∀ (ks : List NodeT) (i : Nat) (x : NodeT), ks[i]? = some x → countL (ks.take (i + 1)) = countL (ks.take i) + countN x
  | [], _, _, h => by simp at h
  | k :: ks, 0, x, h => by
    obtain rfl : k = x := by simpa using h
    rw [List.take_succ_cons, List.take_zero, countL, countL, List.take_zero, countL]
    omega
  | k :: ks, i + 1, x, h => by
    have := countL_take ks i x (by simpa using h)
    rw [List.take_succ_cons, List.take_succ_cons, countL, countL, this]
    omega
theorem countL_le : ∀ (ks : List NodeT) (i : Nat), countL (ks.take i) ≤ countL ks
  | [], i => by simp
  | k :: ks, 0 => by rw [List.take_zero, countL]; omega
  | k :: ks, i + 1 => by
    have := countL_le ks i
    rw [List.take_succ_cons, countL, countL]
    omega
set_option maxHeartbeats 16000000 in
set_option maxRecDepth 100000 in
set_option linter.unusedSimpArgs false in
theorem rcount_any {w : World} {cs : List Value} {n : NodeT} (h : NodeP anyB w cs n) : ∀ (s : Nat) w', s ≤ 4096 → Below w.heap.size w w' → Calls Tryz.prog 66 #[.agg cs.toArray, .int .i64 s] w' (CountP (s + countN n) w') := by
  induction h with
  | mk t sp n ats ks av A cap rows ha hl hm hA hc hk ih =>
  intro s w' hs hbw
  obtain ⟨avA, avc, rfl⟩ := tab_shape ha.1
  unfold maxLen at hm
  have HIH := Lib.hid ih
  have HRow := Lib.hid (fun j x (hx : ks[j]? = some x) => row_at (b := 0) (o := 0) (v := .pointer none) hc (List.getElem?_eq_some_iff.1 hx).1 (hk j x hx))
  have HCn := Lib.hid (show countN (.mk t sp n ats ks) = 1 + countL ks by rw [countN])
  generalize countN (.mk t sp n ats ks) = CN at *
  show Calls Tryz.prog 66 #[.agg #[.string ⟨t.toArray⟩, .string ⟨sp.toArray⟩, .string ⟨n.toArray⟩, .slice avA ats.length avc, .slice A ks.length cap], .int .i64 s] w' (CountP (s + CN) w')
  obtain ⟨E, hEE⟩ : ∃ E, E = CountP (s + CN) w' := ⟨_, rfl⟩
  rw [← hEE]
  have HEE := Lib.hid hEE
  have HBw := Lib.hid hbw
  have hb1 : Below w'.heap.size w' (w'.alloc (.cells #[.string ⟨t.toArray⟩, .string ⟨sp.toArray⟩, .string ⟨n.toArray⟩, .slice avA ats.length avc, .slice A ks.length cap] 36 (0, 0))) := (Below.refl _ _).alloc (Nat.le_refl _) _
  have HQ := Lib.hid (heap_alloc_new w' (.cells #[.string ⟨t.toArray⟩, .string ⟨sp.toArray⟩, .string ⟨n.toArray⟩, .slice avA ats.length avc, .slice A ks.length cap] 36 (0, 0)))
  have HB1 := Lib.hid hb1
  clear hb1 ih hk hc hA ha hbw hEE
  go_enter Tryz.func66, Tryz.ntmps66
  go_wp2_with fail
  generalize w'.alloc (.cells #[.string ⟨t.toArray⟩, .string ⟨sp.toArray⟩, .string ⟨n.toArray⟩, .slice avA ats.length avc, .slice A ks.length cap] 36 (0, 0)) = w1 at *
  obtain ⟨q, hq⟩ : ∃ q, q = w'.heap.size := ⟨_, rfl⟩
  rw [← hq] at HQ ⊢
  clear hq
  go_loopg [1, 5] ks.length (fun gk v1 v5 wr => ∃ (z i : Nat), i + gk = ks.length ∧ v1 = .int .i64 z ∧ v5 = .int .i64 i ∧ Hid (CountIs z (s + 1 + countL (ks.take i))) ∧ Hid (Below w1.heap.size w1 wr))
  case atStart => exact ⟨s + 1, 0, by omega, by go_num, rfl, Lib.hid (by rw [List.take_zero, countL]; exact .inl rfl), Lib.hid (Below.refl _ _)⟩
  case round =>
    obtain ⟨z, i, hig, rfl, rfl, HZ, HBr⟩ := hrel
    have hqr := (HBr.out.block _ (xlt HQ.out)).trans HQ.out
    have x4 := xat hqr 4
    simp only [List.getElem?_toArray, List.getElem?_cons_zero, List.getElem?_cons_succ] at x4
    clear hqr
    have HEx := Lib.hid (HB1.out.trans (HBr.out.mono HB1.out.size))
    have HLe := Lib.hid (countL_le ks i)
    rcases Nat.lt_or_ge i ks.length with hlt | hge
    · have i1 : (i : Int) < ks.length := by omega
      have i2 : (0 : Int) ≤ i := by omega
      by_cases hz : z ≤ 4096
      · have z1 : (z : Int) ≤ 4096 := by omega
        have z2 : decide ((z : Int) ≤ 4096) = true := decide_eq_true z1
        obtain ⟨x, hx⟩ : ∃ x, ks[i]? = some x := ⟨_, List.getElem?_eq_getElem hlt⟩
        obtain ⟨b1, o1, aA, ac, kB, kcc, rfl, hbl1, hrow, e0, e1, e2, e3, e4⟩ := HRow.out i x hx
        have hbx := HBw.out.trans (HEx.out.mono HBw.out.size)
        have d0 := (hbx.cell (p := ⟨b1, o1 + i * 5, none⟩) hbl1).trans e0
        have d1 := (hbx.cell (p := ⟨b1, o1 + i * 5 + 1, none⟩) hbl1).trans e1
        have d2 := (hbx.cell (p := ⟨b1, o1 + i * 5 + 2, none⟩) hbl1).trans e2
        have d3 := (hbx.cell (p := ⟨b1, o1 + i * 5 + 3, none⟩) hbl1).trans e3
        have d4 := (hbx.cell (p := ⟨b1, o1 + i * 5 + 4, none⟩) hbl1).trans e4
        have HCl := Lib.hid (HIH.out i x hx z wr hz hbx)
        have HTk := Lib.hid (countL_take ks i x hx)
        rw [hrow] at HCl
        clear e0 e1 e2 e3 e4 hbx hx hrow
        go_wp2_with fail
        refine HCl.out.mono ?_
        rintro e w5 ⟨hb5, y, rfl, hy⟩
        have HB5 := Lib.hid (HBr.out.trans (hb5.mono HBr.out.size))
        have HZ5 := Lib.hid (show CountIs y (s + 1 + countL (ks.take (i + 1))) by
          have h1 := HZ.out
          have h2 := HTk.out
          unfold CountIs at h1 hy ⊢
          omega)
        clear hb5 HCl x4 d0 d1 d2 d3 d4 hy z1 z2
        go_wp2
        go_roundg (gk - 1)
        case measure => omega
        case rel => exact ⟨y, i + 1, by omega, rfl, by go_num, HZ5, HB5⟩
      · have z1 : ¬ (z : Int) ≤ 4096 := by omega
        have z2 : decide ((z : Int) ≤ 4096) = false := decide_eq_false z1
        go_wp2
        rw [HEE.out]
        exact ⟨HEx.out, z, rfl, by have h1 := HZ.out; have h2 := HLe.out; have h3 := HCn.out; unfold CountIs at h1 ⊢; omega⟩
    · have hie : i = ks.length := by omega
      subst hie
      go_wp2
      rw [HEE.out]
      exact ⟨HEx.out, z, rfl, by have h1 := HZ.out; rw [List.take_length] at h1; have h3 := HCn.out; unfold CountIs at h1 ⊢; omega⟩
end Go.Proofs.YtcamdnfhnianbaaGreatDoor
/-! MulP -/
namespace Go.Proofs.YtcamdnfhnianbaaGreatDoor
set_option linter.unusedVariables false
set_option linter.unusedSimpArgs false
open Go.RowKit

theorem goodN_textV (d : Nat) (t s : List UInt8) (ats : List AttrT) (ks : List NodeT) : goodN d (.mk t s [] ats ks) = (!decide (t = []) && lettersX t && decide (s = []) && decide (ats = []) && ks.isEmpty) := by
  rw [goodN, if_pos rfl]
theorem goodN_elemV (d : Nat) (t s n : List UInt8) (ats : List AttrT) (ks : List NodeT) (h : n ≠ []) : goodN d (.mk t s n ats ks) = (decide (d < 16) && decide (t = []) && shortX n && decide (s.length ≤ 60) && lettersX s && attrsOk [] ats && noTwo ks && goodL (d + 1) ks) := by
  rw [goodN, if_neg h]
/-- the head of an element is bad. -/
theorem head_bad {d : Nat} {t s n : List UInt8} {ats : List AttrT} {ks : List NodeT} (h : n ≠ []) (hb : ¬ (d < 16 ∧ t = [] ∧ nameOk n = true ∧ n.length ≤ 60 ∧ lettersX n = true ∧ s.length ≤ 60 ∧ lettersX s = true)) : goodN d (.mk t s n ats ks) = false := by
  rw [goodN_elemV _ _ _ _ _ _ h, Bool.eq_false_iff]
  intro he
  simp only [Bool.and_eq_true, decide_eq_true_eq, shortX] at he
  obtain ⟨⟨⟨⟨⟨⟨⟨h1, h2⟩, ⟨h3, h4⟩, h5⟩, h6⟩, h7⟩, -⟩, -⟩, -⟩ := he
  exact hb ⟨h1, h2, h3, h4, h5, h6, h7⟩
theorem head_ok {d : Nat} {t s n : List UInt8} {ats : List AttrT} {ks : List NodeT} (h : n ≠ []) (h1 : d < 16) (h2 : t = []) (h3 : nameOk n = true) (h4 : n.length ≤ 60) (h5 : lettersX n = true) (h6 : s.length ≤ 60) (h7 : lettersX s = true) : goodN d (.mk t s n ats ks) = (attrsOk [] ats && (noTwo ks && goodL (d + 1) ks)) := by
  rw [goodN_elemV _ _ _ _ _ _ h]
  have e : shortX n = true := by unfold shortX; rw [h3, h5, decide_eq_true h4]; rfl
  rw [decide_eq_true h1, decide_eq_true h2, e, decide_eq_true h6, h7]
  cases attrsOk [] ats <;> simp
def namesBack (l : List AttrT) : List (List UInt8) := (l.map (·.name)).reverse
/-- one attribute more. -/
theorem attrs_next {ats r : List AttrT} {i : Nat} {a : AttrT} (hd : ats.drop i = a :: r) (hr : ats.drop (i + 1) = r) (hx : ats[i]? = some a) {V : Bool} (hV : attrsOk (namesBack (ats.take i)) (ats.drop i) = V) :
    (¬ (nameOk a.name = true ∧ a.name.length ≤ 60 ∧ lettersX a.name = true ∧ a.name ≠ wXmlns ∧ lettersX a.value = true) → V = false) ∧ (a.name ∈ (ats.take i).map (·.name) → V = false) ∧
      (nameOk a.name = true → a.name.length ≤ 60 → lettersX a.name = true → a.name ≠ wXmlns → lettersX a.value = true → a.name ∉ (ats.take i).map (·.name) → attrsOk (namesBack (ats.take (i + 1))) (ats.drop (i + 1)) = V) := by
  have hn : namesBack (ats.take (i + 1)) = a.name :: namesBack (ats.take i) := by
    unfold namesBack
    rw [List.take_add_one, hx]
    simp
  have hm : (a.name ∈ namesBack (ats.take i)) ↔ a.name ∈ (ats.take i).map (·.name) := by unfold namesBack; rw [List.mem_reverse]
  rw [hd, attrsOk] at hV
  refine ⟨fun h => ?_, fun h => ?_, fun h1 h2 h3 h4 h5 h6 => ?_⟩
  · rw [← hV, Bool.eq_false_iff]
    intro he
    simp only [Bool.and_eq_true, decide_eq_true_eq, shortX, Bool.not_eq_true', decide_eq_false_iff_not] at he
    exact h ⟨he.1.1.1.1.1.1, he.1.1.1.1.1.2, he.1.1.1.1.2, he.1.1.1.2, he.1.2⟩
  · rw [← hV, decide_eq_true (hm.2 h)]
    simp
  · have e : shortX a.name = true := by unfold shortX; rw [h1, h3, decide_eq_true h2]; rfl
    rw [e, h5, decide_eq_false h4, decide_eq_false (fun h => h6 (hm.1 h))] at hV
    rw [hn, hr]
    simpa using hV
/-- one kid more. -/
theorem kids_next {ks r : List NodeT} {d i : Nat} {x : NodeT} (hd : ks.drop i = x :: r) (hr : ks.drop (i + 1) = r) {V : Bool} (hV : (noTwo (ks.drop (i - 1)) && goodL d (ks.drop i)) = V) :
    (goodN d x = false → V = false) ∧ (∀ p, 0 < i → ks[i - 1]? = some p → x.name = [] → p.name = [] → V = false) ∧
      (goodN d x = true → (∀ p, 0 < i → ks[i - 1]? = some p → ¬ (x.name = [] ∧ p.name = [])) → (noTwo (ks.drop (i + 1 - 1)) && goodL d (ks.drop (i + 1))) = V) := by
  rw [hd, goodL] at hV
  refine ⟨fun h => by rw [← hV, h]; simp, fun p hi hp h1 h2 => ?_, fun h1 h2 => ?_⟩
  · have e : ks.drop (i - 1) = p :: x :: r := by
      have h3 := List.drop_eq_getElem?_toList_append (l := ks) (i := i - 1)
      rw [hp, show i - 1 + 1 = i by omega, hd] at h3
      simpa using h3
    rw [← hV, e, noTwo, h1, h2]
    simp
  · rw [show i + 1 - 1 = i by omega, hd, hr]
    rw [h1, Bool.true_and] at hV
    rcases Nat.eq_zero_or_pos i with rfl | hi
    · rw [show 0 - 1 = 0 from rfl, hd] at hV
      exact hV
    · have hlt : i < ks.length := by
        rcases Nat.lt_or_ge i ks.length with h | h
        · exact h
        · rw [List.drop_eq_nil_of_le h] at hd; cases hd
      obtain ⟨p, hp⟩ : ∃ p, ks[i - 1]? = some p := ⟨_, List.getElem?_eq_getElem (by omega)⟩
      have e : ks.drop (i - 1) = p :: x :: r := by
        have h3 := List.drop_eq_getElem?_toList_append (l := ks) (i := i - 1)
        rw [hp, show i - 1 + 1 = i by omega, hd] at h3
        simpa using h3
      rw [e, noTwo] at hV
      have h4 := h2 p hi hp
      have h5 : (!decide (p.name = []) || !decide (x.name = [])) = true := by
        by_cases hx : x.name = []
        · have : p.name ≠ [] := fun h => h4 ⟨hx, h⟩
          simp [this]
        · simp [hx]
      rw [h5, Bool.true_and] at hV
      exact hV
set_option maxHeartbeats 64000000 in
set_option maxRecDepth 100000 in
set_option linter.unusedSimpArgs false in
theorem rfine_any {w : World} {cs : List Value} {n : NodeT} (h : NodeP anyB w cs n) : SmallN 2000000 n → ∀ (d : Nat) (D : Int) w', D = d + 1 → d ≤ 16 → Below w.heap.size w w' → Calls Tryz.prog 67 #[.agg cs.toArray, .int .i64 D] w' (Ret (.bool (goodN d n)) w') := by
  induction h with
  | mk t sp n ats ks av A cap rows ha hl hm hA hc hk ih =>
  intro hs d D w' hD hd hbw
  obtain ⟨avA, avc, rfl⟩ := tab_shape ha.1
  obtain ⟨-, hac, ham, hat⟩ := attrs_at ha
  unfold maxLen at hm ham
  obtain ⟨st, ss, sn, sal, sa, skl, sk⟩ := hs.parts
  simp only [NodeT.text, NodeT.space, NodeT.name, NodeT.attrs, NodeT.kids] at st ss sn sal sa skl sk hac
  have HIH := Lib.hid ih
  have HAt := Lib.hid (show ∀ j a, ats[j]? = some a → _ from hat)
  have HSa := Lib.hid sa
  have HSk := Lib.hid sk
  have HRow := Lib.hid (fun j x (hx : ks[j]? = some x) => row_at (b := 0) (o := 0) (v := .pointer none) hc (List.getElem?_eq_some_iff.1 hx).1 (hk j x hx))
  have HLt := Lib.hid (fun (s : List UInt8) (w : World) (hs : s.length ≤ 2000000) => xrletters_any s w (by omega))
  have HNm := Lib.hid (fun (s : List UInt8) (w : World) (hs : s.length ≤ 2000000) => xrname_any s w (by omega))
  show Calls Tryz.prog 67 #[.agg #[.string ⟨t.toArray⟩, .string ⟨sp.toArray⟩, .string ⟨n.toArray⟩, .slice avA ats.length avc, .slice A ks.length cap], .int .i64 D] w' (Ret (.bool (goodN d (.mk t sp n ats ks))) w')
  obtain ⟨ANS, hANS⟩ : ∃ X, X = goodN d (.mk t sp n ats ks) := ⟨_, rfl⟩
  rw [← hANS]
  have HANS := Lib.hid hANS
  obtain ⟨E, hEE⟩ : ∃ E, E = Ret (.bool ANS) w' := ⟨_, rfl⟩
  rw [← hEE]
  have HEE := Lib.hid hEE
  have HBw := Lib.hid hbw
  have hb1 : Below w'.heap.size w' (w'.alloc (.cells #[.string ⟨t.toArray⟩, .string ⟨sp.toArray⟩, .string ⟨n.toArray⟩, .slice avA ats.length avc, .slice A ks.length cap] 36 (0, 0))) := (Below.refl _ _).alloc (Nat.le_refl _) _
  have HQ := Lib.hid (heap_alloc_new w' (.cells #[.string ⟨t.toArray⟩, .string ⟨sp.toArray⟩, .string ⟨n.toArray⟩, .slice avA ats.length avc, .slice A ks.length cap] 36 (0, 0)))
  have HB1 := Lib.hid hb1
  have HD := Lib.hid hD
  have hD1 : 1 ≤ D := by omega
  have hD2 : D ≤ 17 := by omega
  clear hb1 ih hk hc hA ha hbw hEE hANS hs sa sk hat hD
  have x0 := xat HQ.out 0
  have x1 := xat HQ.out 1
  have x2 := xat HQ.out 2
  have x3 := xat HQ.out 3
  have x4 := xat HQ.out 4
  simp only [List.getElem?_toArray, List.getElem?_cons_zero, List.getElem?_cons_succ] at x0 x1 x2 x3 x4
  go_enter Tryz.func67, Tryz.ntmps67
  go_upto_region 1 with (fail)
  generalize w'.alloc (.cells #[.string ⟨t.toArray⟩, .string ⟨sp.toArray⟩, .string ⟨n.toArray⟩, .slice avA ats.length avc, .slice A ks.length cap] 36 (0, 0)) = w1 at *
  obtain ⟨q, hq⟩ : ∃ q, q = w'.heap.size := ⟨_, rfl⟩
  rw [← hq] at HQ x0 x1 x2 x3 x4 ⊢
  clear hq
  by_cases hn : n = []
  · subst hn
    have hF := HANS.out
    rw [goodN_textV] at hF
    have HF := Lib.hid hF
    clear hF HANS HIH HAt HSa HSk HRow HNm
    by_cases h1 : t = []
    · have c1 : (t != []) = false := by rw [h1]; rfl
      have c2 : (t == []) = true := by rw [h1]; rfl
      have c3 : t.isEmpty = true := by rw [h1]; rfl
      have HF2 := Lib.hid (show ANS = false by rw [HF.out, decide_eq_true h1]; rfl)
      clear h1 HF
      go_wp2
      rw [HEE.out, HF2.out]
      exact ⟨rfl, HB1.out⟩
    have c1 : (t == []) = false := beq_eq_false_iff_ne.2 h1
    have c2 : (t != []) = true := by rw [bne, c1]; rfl
    have c3 : t.isEmpty = false := by cases t with | nil => exact absurd rfl h1 | cons => rfl
    have HL1 := Lib.hid (HLt.out t w1 st)
    obtain ⟨L1, hL1⟩ : ∃ L, L = lettersX t := ⟨_, rfl⟩
    rw [← hL1] at HL1
    have HF1 := Lib.hid (show ANS = (L1 && decide (sp = []) && decide (ats = []) && ks.isEmpty) by rw [HF.out, decide_eq_false h1, hL1]; rfl)
    clear h1 HF hL1
    go_wp2_with fail
    refine HL1.out.mono ?_
    rintro e w5 ⟨rfl, hb5⟩
    have HB5 := Lib.hid (HB1.out.trans (hb5.mono HB1.out.size))
    have y1 := (hb5.cell (p := ⟨q, 1, none⟩) (cell_lt x1)).trans x1
    have y3 := (hb5.cell (p := ⟨q, 3, none⟩) (cell_lt x3)).trans x3
    have y4 := (hb5.cell (p := ⟨q, 4, none⟩) (cell_lt x4)).trans x4
    clear hb5 HL1 x0 x1 x2 x3 x4
    cases L1
    · have HF2 := Lib.hid (show ANS = false by rw [HF1.out]; rfl)
      go_wp2
      rw [HEE.out, HF2.out]
      exact ⟨rfl, HB5.out⟩
    by_cases h2 : sp = []
    · have e1 : (sp == []) = true := by rw [h2]; rfl
      have e2 : sp.isEmpty = true := by rw [h2]; rfl
      by_cases h3 : ats.length + ks.length = 0
      · have i1 : (ats.length : Int) + ks.length = 0 := by omega
        have HF2 := Lib.hid (show ANS = true by
          have h4 : ats = [] := List.eq_nil_of_length_eq_zero (by omega)
          have h5 : ks = [] := List.eq_nil_of_length_eq_zero (by omega)
          rw [HF1.out, decide_eq_true h2, decide_eq_true h4, h5]; rfl)
        clear h2 h3 HF1
        go_wp2
        rw [HEE.out, HF2.out]
        exact ⟨rfl, HB5.out⟩
      · have i1 : ¬ (ats.length : Int) + ks.length = 0 := by omega
        have i2 : ((ats.length : Int) + ks.length == 0) = false := beq_eq_false_iff_ne.2 i1
        have HF2 := Lib.hid (show ANS = false by
          rw [HF1.out, Bool.eq_false_iff]
          intro he
          simp only [Bool.and_eq_true, decide_eq_true_eq, List.isEmpty_iff] at he
          obtain ⟨⟨-, h4⟩, h5⟩ := he
          rw [h4, h5] at h3
          exact h3 rfl)
        have hb : (ats.length : Int) + ks.length ≤ 9223372036854775807 := by omega
        clear h2 h3 HF1
        go_wp2
        rw [HEE.out, HF2.out]
        exact ⟨rfl, HB5.out⟩
    · have e1 : (sp == []) = false := beq_eq_false_iff_ne.2 h2
      have e2 : sp.isEmpty = false := by cases sp with | nil => exact absurd rfl h2 | cons => rfl
      have HF2 := Lib.hid (show ANS = false by rw [HF1.out, decide_eq_false h2]; rfl)
      clear h2 HF1
      go_wp2
      rw [HEE.out, HF2.out]
      exact ⟨rfl, HB5.out⟩
  · have hne : (n == []) = false := beq_eq_false_iff_ne.2 hn
    have hne2 : n.isEmpty = false := by cases n with | nil => exact absurd rfl hn | cons => rfl
    have HN := Lib.hid hn
    clear hn
    have bad : ¬ (d < 16 ∧ t = [] ∧ nameOk n = true ∧ n.length ≤ 60 ∧ lettersX n = true ∧ sp.length ≤ 60 ∧ lettersX sp = true) → ANS = false := fun hb => by rw [HANS.out]; exact head_bad HN.out hb
    have HBad := Lib.hid bad
    clear bad
    by_cases h1 : d < 16
    case neg =>
      have i1 : (16 : Int) < D := by have := HD.out; omega
      have HF := Lib.hid (HBad.out fun h => h1 h.1)
      clear h1 HIH HAt HSa HSk HRow
      go_wp2
      rw [HEE.out, HF.out]
      exact ⟨rfl, HB1.out⟩
    have i1 : ¬ (16 : Int) < D := by have := HD.out; omega
    by_cases h2 : t = []
    case neg =>
      have c1 : (t == []) = false := beq_eq_false_iff_ne.2 h2
      have c2 : (t != []) = true := by rw [bne, c1]; rfl
      have HF := Lib.hid (HBad.out fun h => h2 h.2.1)
      clear h1 h2 HIH HAt HSa HSk HRow
      go_wp2
      rw [HEE.out, HF.out]
      exact ⟨rfl, HB1.out⟩
    have HT := Lib.hid h2
    have c1 : (t == []) = true := by rw [h2]; rfl
    have c2 : (t != []) = false := by rw [h2]; rfl
    clear h2
    have HNm1 := Lib.hid (HNm.out n w1 sn)
    obtain ⟨M1, hM1⟩ : ∃ M, M = nameOk n := ⟨_, rfl⟩
    rw [← hM1] at HNm1
    have HM1 := Lib.hid hM1
    clear hM1
    go_wp2_with fail
    refine HNm1.out.mono ?_
    rintro e w2 ⟨rfl, rfl⟩
    clear HNm1
    cases M1
    case false =>
      have HF := Lib.hid (HBad.out fun h => by have := h.2.2.1; rw [← HM1.out] at this; cases this)
      clear HIH HAt HSa HSk HRow
      go_wp2
      rw [HEE.out, HF.out]
      exact ⟨rfl, HB1.out⟩
    by_cases h4 : n.length ≤ 60
    case neg =>
      have i4 : (60 : Int) < n.length := by omega
      have HF := Lib.hid (HBad.out fun h => h4 h.2.2.2.1)
      clear HIH HAt HSa HSk HRow h4
      go_wp2
      rw [HEE.out, HF.out]
      exact ⟨rfl, HB1.out⟩
    have i4 : ¬ (60 : Int) < n.length := by omega
    have HL1 := Lib.hid (HLt.out n w1 sn)
    obtain ⟨L1, hL1⟩ : ∃ L, L = lettersX n := ⟨_, rfl⟩
    rw [← hL1] at HL1
    have HLn := Lib.hid hL1
    clear hL1
    go_wp2_with fail
    refine HL1.out.mono ?_
    rintro e w5 ⟨rfl, hb5⟩
    have HB5 := Lib.hid (HB1.out.trans (hb5.mono HB1.out.size))
    have HQ5 := Lib.hid ((hb5.block _ (xlt HQ.out)).trans HQ.out)
    clear hb5 HL1 x0 x1 x2 x3 x4
    have x1 := xat HQ5.out 1
    have x3 := xat HQ5.out 3
    have x4 := xat HQ5.out 4
    simp only [List.getElem?_toArray, List.getElem?_cons_zero, List.getElem?_cons_succ] at x1 x3 x4
    cases L1
    case false =>
      have HF := Lib.hid (HBad.out fun h => by have := h.2.2.2.2.1; rw [← HLn.out] at this; cases this)
      clear HIH HAt HSa HSk HRow
      go_wp2
      rw [HEE.out, HF.out]
      exact ⟨rfl, HB5.out⟩
    by_cases h6 : sp.length ≤ 60
    case neg =>
      have i6 : (60 : Int) < sp.length := by omega
      have HF := Lib.hid (HBad.out fun h => h6 h.2.2.2.2.2.1)
      clear HIH HAt HSa HSk HRow h6
      go_wp2
      rw [HEE.out, HF.out]
      exact ⟨rfl, HB5.out⟩
    have i6 : ¬ (60 : Int) < sp.length := by omega
    have HL2 := Lib.hid (HLt.out sp w5 ss)
    obtain ⟨L2, hL2⟩ : ∃ L, L = lettersX sp := ⟨_, rfl⟩
    rw [← hL2] at HL2
    have HLs := Lib.hid hL2
    clear hL2
    go_wp2_with fail
    refine HL2.out.mono ?_
    rintro e w6 ⟨rfl, hb6⟩
    have HB6 := Lib.hid (HB5.out.trans (hb6.mono HB5.out.size))
    have HQ6 := Lib.hid ((hb6.block _ (xlt HQ5.out)).trans HQ5.out)
    clear hb6 HL2 x1 x3 x4 HB5 HQ5 HQ HB1
    cases L2
    case false =>
      have HF := Lib.hid (HBad.out fun h => by have := h.2.2.2.2.2.2; rw [← HLs.out] at this; cases this)
      clear HIH HAt HSa HSk HRow
      go_wp2
      rw [HEE.out, HF.out]
      exact ⟨rfl, HB6.out⟩
    obtain ⟨VA, hVA⟩ : ∃ V, attrsOk [] ats = V := ⟨_, rfl⟩
    obtain ⟨VK, hVK⟩ : ∃ V, (noTwo ks && goodL (d + 1) ks) = V := ⟨_, rfl⟩
    have HF := Lib.hid (show ANS = (VA && VK) by rw [HANS.out, head_ok HN.out h1 HT.out HM1.out.symm h4 HLn.out.symm h6 HLs.out.symm, hVA, hVK])
    have HVA := Lib.hid (show attrsOk (namesBack (ats.take 0)) (ats.drop 0) = VA by rw [← hVA]; rfl)
    have HVK := Lib.hid (show (noTwo (ks.drop (0 - 1)) && goodL (d + 1) (ks.drop 0)) = VK from hVK)
    clear hVA hVK HANS HBad HN HT HM1 HLn HLs
    go_wp2_with fail
    clear hne hne2 c1 c2 i1 i4 i6 h4 h6
    have hqr0 := HQ6.out
    go_loopg [5] ats.length (fun gk v5 wr => ∃ i : Nat, i + gk = ats.length ∧ v5 = .int .i64 i ∧ Hid (Below w6.heap.size w6 wr) ∧ Hid (attrsOk (namesBack (ats.take i)) (ats.drop i) = VA))
    case atStart => exact ⟨0, by omega, rfl, Lib.hid (Below.refl _ _), HVA⟩
    case round =>
      obtain ⟨i, hig, rfl, HBr, HAll⟩ := hrel
      clear HVA hqr0
      have HBx := Lib.hid (HB6.out.trans (HBr.out.mono HB6.out.size))
      have HQr := Lib.hid ((HBr.out.block _ (xlt HQ6.out)).trans HQ6.out)
      have x3 := xat HQr.out 3
      have x4 := xat HQr.out 4
      simp only [List.getElem?_toArray, List.getElem?_cons_zero, List.getElem?_cons_succ] at x3 x4
      rcases hd : ats.drop i with _ | ⟨a, rest⟩
      case nil =>
        have hi2 : i = ats.length := by have := drop_nil hd; omega
        subst hi2
        have hV : VA = true := by have := HAll.out; rw [hd] at this; exact this.symm
        have HF2 := Lib.hid (show ANS = VK by rw [HF.out, hV]; rfl)
        clear hd HAll HF hV HAt HSa
        go_wp2_with fail
        clear x3 x4
        obtain ⟨wz, hwz⟩ : ∃ wz, wz = wr := ⟨_, rfl⟩
        subst hwz
        go_loopg [8] ks.length (fun gk v8 wr => ∃ i : Nat, i + gk = ks.length ∧ v8 = .int .i64 i ∧ Hid (Below wz.heap.size wz wr) ∧ Hid ((noTwo (ks.drop (i - 1)) && goodL (d + 1) (ks.drop i)) = VK))
        case atStart => exact ⟨0, by omega, rfl, Lib.hid (Below.refl _ _), HVK⟩
        case round =>
          obtain ⟨i, hig, rfl, HBr2, HAll⟩ := hrel
          clear HVK
          have HBx2 := Lib.hid (HBx.out.trans (HBr2.out.mono HBx.out.size))
          have HQr2 := Lib.hid ((HBr2.out.block _ (xlt HQr.out)).trans HQr.out)
          have x4 := xat HQr2.out 4
          simp only [List.getElem?_toArray, List.getElem?_cons_zero, List.getElem?_cons_succ] at x4
          rcases hd : ks.drop i with _ | ⟨x, rest⟩
          case nil =>
            have hi2 : i = ks.length := by have := drop_nil hd; omega
            subst hi2
            have hV : ANS = true := by
              have := HAll.out
              rw [hd, goodL, Bool.and_true] at this
              rw [HF2.out, ← this]
              rcases hl : ks.drop (ks.length - 1) with _ | ⟨y, _ | ⟨z, r⟩⟩
              · rfl
              · rfl
              · have h8 := congrArg List.length hl
                simp only [List.length_drop, List.length_cons] at h8
                omega
            have HV := Lib.hid hV
            clear hd HAll HF2 hV
            go_wp2
            rw [HEE.out, HV.out]
            exact ⟨rfl, HBx2.out⟩
          case cons =>
            obtain ⟨hlt, hx, hr⟩ := drop_consA hd
            obtain ⟨n1, n2, n3⟩ := kids_next hd hr HAll.out
            obtain ⟨b1, o1, aA, ac, kB, kcc, rfl, hbl1, hrow, e0, e1, e2, e3, e4⟩ := HRow.out i x hx
            have hbx := HBw.out.trans (HBx2.out.mono HBw.out.size)
            have d0 := (hbx.cell (p := ⟨b1, o1 + i * 5, none⟩) hbl1).trans e0
            have d1 := (hbx.cell (p := ⟨b1, o1 + i * 5 + 1, none⟩) hbl1).trans e1
            have d2 := (hbx.cell (p := ⟨b1, o1 + i * 5 + 2, none⟩) hbl1).trans e2
            have d3 := (hbx.cell (p := ⟨b1, o1 + i * 5 + 3, none⟩) hbl1).trans e3
            have d4 := (hbx.cell (p := ⟨b1, o1 + i * 5 + 4, none⟩) hbl1).trans e4
            have k1 : (i : Int) < ks.length := by omega
            have k2 : (0 : Int) ≤ i := by omega
            have HCl := Lib.hid (HIH.out i x hx (HSk.out x (List.mem_of_getElem? hx)) (d + 1) (D + 1) wr (by have := HD.out; omega) (by omega) hbx)
            rw [hrow] at HCl
            have N1 := Lib.hid n1
            have N2 := Lib.hid n2
            have N3 := Lib.hid n3
            have HE2 := Lib.hid e2
            clear e0 e1 e2 e3 e4 hd hr n1 n2 n3 hrow HAll
            obtain ⟨G, hG⟩ : ∃ G, G = goodN (d + 1) x := ⟨_, rfl⟩
            rw [← hG] at HCl
            have HG := Lib.hid hG
            clear hG
            go_wp2_with fail
            refine HCl.out.mono ?_
            rintro e w7 ⟨rfl, hb7⟩
            have HB7 := Lib.hid (HBr2.out.trans (hb7.mono HBr2.out.size))
            have HBx7 := Lib.hid (HBx2.out.trans (hb7.mono HBx2.out.size))
            have HQ7 := Lib.hid ((hb7.block _ (xlt HQr2.out)).trans HQr2.out)
            clear hb7 HCl d0 d1 d2 d3 d4 x4
            cases G
            · have HV := Lib.hid (show ANS = false by rw [HF2.out]; exact N1.out HG.out.symm)
              clear N1 N2 N3 HG HF2
              go_wp2
              rw [HEE.out, HV.out]
              exact ⟨rfl, HBx7.out⟩
            rcases Nat.eq_zero_or_pos i with hi0 | hi0
            · subst hi0
              have HAll2 := Lib.hid (N3.out HG.out.symm (fun p h _ => absurd h (by omega)))
              clear N1 N2 N3 HG hx
              go_wp2
              go_roundg (ks.length - (0 + 1))
              case measure => omega
              case rel => exact ⟨0 + 1, by omega, by go_num, HB7, HAll2⟩
            obtain ⟨j, rfl⟩ : ∃ j, i = j + 1 := ⟨i - 1, by omega⟩
            obtain ⟨p, hp⟩ : ∃ p, ks[j]? = some p := ⟨_, List.getElem?_eq_getElem (by omega)⟩
            obtain ⟨b2, o2, aA2, ac2, kB2, kcc2, hbo, -, -, -, -, f2, -, -⟩ := HRow.out j p hp
            injection hbo with hbo
            injection hbo with q1 q2 q3
            subst q1 q2
            have hbx7 := HBw.out.trans (HBx7.out.mono HBw.out.size)
            have y4 := xat HQ7.out 4
            simp only [List.getElem?_toArray, List.getElem?_cons_zero, List.getElem?_cons_succ] at y4
            have d2 := (hbx7.cell (p := ⟨b1, o1 + (j + 1) * 5 + 2, none⟩) hbl1).trans HE2.out
            have g2 := (hbx7.cell (p := ⟨b1, o1 + j * 5 + 2, none⟩) hbl1).trans f2
            have j1 : (j : Int) < ks.length := by omega
            have j2 : (0 : Int) ≤ j := by omega
            have j3 : (0 : Int) < (j : Int) + 1 := by omega
            have M2 := Lib.hid (N2.out p hi0 hp)
            have M3 := Lib.hid (fun (h : ¬ (x.name = [] ∧ p.name = [])) => N3.out HG.out.symm (fun p' _ hp' => by have := hp.symm.trans hp'; injection this with this; subst this; exact h))
            clear f2 hbx7 N1 N2 N3 HG hx hp q3
            by_cases hxn : x.name = []
            · have c1 : (x.name == []) = true := by rw [hxn]; rfl
              have c2 : x.name.isEmpty = true := by rw [hxn]; rfl
              by_cases hpn : p.name = []
              · have c3 : (p.name == []) = true := by rw [hpn]; rfl
                have c4 : p.name.isEmpty = true := by rw [hpn]; rfl
                have HV := Lib.hid (show ANS = false by rw [HF2.out]; exact M2.out hxn hpn)
                clear hxn hpn M2 M3 HF2
                go_wp2
                rw [HEE.out, HV.out]
                exact ⟨rfl, HBx7.out⟩
              · have c3 : (p.name == []) = false := beq_eq_false_iff_ne.2 hpn
                have c4 : p.name.isEmpty = false := by cases h : p.name with | nil => exact absurd h hpn | cons => rfl
                have HAll2 := Lib.hid (M3.out fun h => hpn h.2)
                clear hxn hpn M2 M3
                go_wp2
                go_roundg (ks.length - (j + 1 + 1))
                case measure => omega
                case rel => exact ⟨j + 1 + 1, by omega, by go_num, HB7, HAll2⟩
            · have c1 : (x.name == []) = false := beq_eq_false_iff_ne.2 hxn
              have c2 : x.name.isEmpty = false := by cases h : x.name with | nil => exact absurd h hxn | cons => rfl
              have HAll2 := Lib.hid (M3.out fun h => hxn h.1)
              clear hxn M2 M3
              go_wp2
              go_roundg (ks.length - (j + 1 + 1))
              case measure => omega
              case rel => exact ⟨j + 1 + 1, by omega, by go_num, HB7, HAll2⟩
      case cons =>
        obtain ⟨hlt, hx, hr⟩ := drop_consA hd
        obtain ⟨n1, n2, n3⟩ := attrs_next hd hr hx HAll.out
        obtain ⟨b1, o1, rfl, hbl1, e0, e1⟩ := HAt.out i a hx
        have hbx := HBw.out.trans (HBx.out.mono HBw.out.size)
        have d0 := (hbx.cell (p := ⟨b1, o1 + i * 2, none⟩) hbl1).trans e0
        have d1 := (hbx.cell (p := ⟨b1, o1 + i * 2 + 1, none⟩) hbl1).trans e1
        have k1 : (i : Int) < ats.length := by omega
        have k2 : (0 : Int) ≤ i := by omega
        obtain ⟨sn1, sv1⟩ := HSa.out a (List.mem_of_getElem? hx)
        have N1 := Lib.hid (show ¬ (nameOk a.name = true ∧ a.name.length ≤ 60 ∧ lettersX a.name = true ∧ a.name ≠ wXmlns ∧ lettersX a.value = true) → ANS = false from fun h => by rw [HF.out, n1 h]; rfl)
        have N2 := Lib.hid (show a.name ∈ (ats.take i).map (·.name) → ANS = false from fun h => by rw [HF.out, n2 h]; rfl)
        have N3 := Lib.hid n3
        have hb8 : Below wr.heap.size wr (wr.alloc (.cells #[.string ⟨a.name.toArray⟩, .string ⟨a.value.toArray⟩] 73 (0, 0))) := (Below.refl _ _).alloc (Nat.le_refl _) _
        have HP8 := Lib.hid (heap_alloc_new wr (.cells #[.string ⟨a.name.toArray⟩, .string ⟨a.value.toArray⟩] 73 (0, 0)))
        have HB8 := Lib.hid (HBr.out.trans (hb8.mono HBr.out.size))
        have HBx8 := Lib.hid (HBx.out.trans (hb8.mono HBx.out.size))
        clear e0 e1 hd hr n1 n2 n3 hbx hx HAll hb8
        have HNm1 := Lib.hid (HNm.out a.name (wr.alloc (.cells #[.string ⟨a.name.toArray⟩, .string ⟨a.value.toArray⟩] 73 (0, 0))) sn1)
        obtain ⟨M1, hM1⟩ : ∃ M, M = nameOk a.name := ⟨_, rfl⟩
        rw [← hM1] at HNm1
        have HM1 := Lib.hid hM1
        clear hM1
        go_wp2_with fail
        generalize wr.alloc (.cells #[.string ⟨a.name.toArray⟩, .string ⟨a.value.toArray⟩] 73 (0, 0)) = w8 at *
        obtain ⟨q8, hq8⟩ : ∃ q, q = wr.heap.size := ⟨_, rfl⟩
        rw [← hq8] at HP8 ⊢
        clear hq8 d0 d1 x3 x4
        have y0 := xat HP8.out 0
        have y1 := xat HP8.out 1
        simp only [List.getElem?_toArray, List.getElem?_cons_zero, List.getElem?_cons_succ] at y0 y1
        refine HNm1.out.mono ?_
        rintro e w9 ⟨rfl, rfl⟩
        clear HNm1
        cases M1
        case false =>
          have HV := Lib.hid (N1.out fun h => by have := h.1; rw [← HM1.out] at this; cases this)
          clear N1 N2 N3
          go_wp2
          rw [HEE.out, HV.out]
          exact ⟨rfl, HBx8.out⟩
        by_cases h4 : a.name.length ≤ 60
        case neg =>
          have i4 : (60 : Int) < a.name.length := by omega
          have HV := Lib.hid (N1.out fun h => h4 h.2.1)
          clear N1 N2 N3 h4
          go_wp2
          rw [HEE.out, HV.out]
          exact ⟨rfl, HBx8.out⟩
        have i4 : ¬ (60 : Int) < a.name.length := by omega
        have HL1 := Lib.hid (HLt.out a.name w8 sn1)
        obtain ⟨L1, hL1⟩ : ∃ L, L = lettersX a.name := ⟨_, rfl⟩
        rw [← hL1] at HL1
        have HLn := Lib.hid hL1
        clear hL1
        go_wp2_with fail
        refine HL1.out.mono ?_
        rintro e w9 ⟨rfl, hb9⟩
        have HB9 := Lib.hid (HB8.out.trans (hb9.mono HB8.out.size))
        have HBx9 := Lib.hid (HBx8.out.trans (hb9.mono HBx8.out.size))
        have HP9 := Lib.hid ((hb9.block _ (xlt HP8.out)).trans HP8.out)
        clear hb9 HL1 y0 y1 HB8 HBx8 HP8
        have y0 := xat HP9.out 0
        have y1 := xat HP9.out 1
        simp only [List.getElem?_toArray, List.getElem?_cons_zero, List.getElem?_cons_succ] at y0 y1
        cases L1
        case false =>
          have HV := Lib.hid (N1.out fun h => by have := h.2.2.1; rw [← HLn.out] at this; cases this)
          clear N1 N2 N3
          go_wp2
          rw [HEE.out, HV.out]
          exact ⟨rfl, HBx9.out⟩
        by_cases h6 : a.name = wXmlns
        case pos =>
          have c6 : (a.name == [120, 109, 108, 110, 115]) = true := beq_iff_eq.2 h6
          have HV := Lib.hid (N1.out fun h => h.2.2.2.1 h6)
          clear N1 N2 N3 h6
          go_wp2
          rw [HEE.out, HV.out]
          exact ⟨rfl, HBx9.out⟩
        have c6 : (a.name == [120, 109, 108, 110, 115]) = false := beq_eq_false_iff_ne.2 h6
        have HL2 := Lib.hid (HLt.out a.value w9 sv1)
        obtain ⟨L2, hL2⟩ : ∃ L, L = lettersX a.value := ⟨_, rfl⟩
        rw [← hL2] at HL2
        have HLs := Lib.hid hL2
        clear hL2
        go_wp2_with fail
        refine HL2.out.mono ?_
        rintro e w10 ⟨rfl, hb10⟩
        have HB10 := Lib.hid (HB9.out.trans (hb10.mono HB9.out.size))
        have HBx10 := Lib.hid (HBx9.out.trans (hb10.mono HBx9.out.size))
        have HP10 := Lib.hid ((hb10.block _ (xlt HP9.out)).trans HP9.out)
        clear hb10 HL2 y0 y1 HB9 HBx9 HP9
        cases L2
        case false =>
          have HV := Lib.hid (N1.out fun h => by have := h.2.2.2.2; rw [← HLs.out] at this; cases this)
          clear N1 N2 N3
          go_wp2
          rw [HEE.out, HV.out]
          exact ⟨rfl, HBx10.out⟩
        have N4 := Lib.hid (N3.out HM1.out.symm h4 HLn.out.symm h6 HLs.out.symm)
        go_wp2_with fail
        clear N1 N3 HM1 HLn HLs h4 h6 c6 i4
        have HQ10 := Lib.hid ((HB10.out.block _ (xlt HQ6.out)).trans HQ6.out)
        obtain ⟨wz, hwz⟩ : ∃ wz, wz = w10 := ⟨_, rfl⟩
        subst hwz
        go_loopg [7] i (fun gk v7 wr => ∃ k : Nat, k + gk = i ∧ v7 = .int .i64 k ∧ Hid (Below wz.heap.size wz wr) ∧ Hid (a.name ∉ (ats.take k).map (·.name)))
        case atStart => exact ⟨0, by omega, rfl, Lib.hid (Below.refl _ _), Lib.hid (by simp)⟩
        case round =>
          obtain ⟨k, hkg, rfl, HBr2, HNo⟩ := hrel
          have HBx2 := Lib.hid (HBx10.out.trans (HBr2.out.mono HBx10.out.size))
          have HB2 := Lib.hid (HB10.out.trans (HBr2.out.mono HB10.out.size))
          rcases Nat.lt_or_ge k i with hlt2 | hge2
          case inr =>
            have hki : k = i := by omega
            subst hki
            have HAll2 := Lib.hid (N4.out HNo.out)
            clear N4 N2 HNo
            go_wp2
            go_roundg (ats.length - (k + 1))
            case measure => omega
            case rel => exact ⟨k + 1, by omega, by go_num, HB2, HAll2⟩
          have hq2 := (HBr2.out.block _ (xlt HQ10.out)).trans HQ10.out
          have hp2 := (HBr2.out.block _ (xlt HP10.out)).trans HP10.out
          have x3 := xat hq2 3
          have y0 := xat hp2 0
          simp only [List.getElem?_toArray, List.getElem?_cons_zero, List.getElem?_cons_succ] at x3 y0
          obtain ⟨u, hu⟩ : ∃ u, ats[k]? = some u := ⟨_, List.getElem?_eq_getElem (by omega)⟩
          obtain ⟨b2, o2, hbo, -, f0, -⟩ := HAt.out k u hu
          injection hbo with hbo
          injection hbo with q1 q2 q3
          subst q1 q2
          have hbx := HBw.out.trans (HBx2.out.mono HBw.out.size)
          have g0 := (hbx.cell (p := ⟨b1, o1 + k * 2, none⟩) hbl1).trans f0
          have j1 : (k : Int) < i := by omega
          have j2 : (0 : Int) ≤ k := by omega
          have j3 : (k : Int) < ats.length := by omega
          have HTk := Lib.hid (show (ats.take (k + 1)).map (·.name) = (ats.take k).map (·.name) ++ [u.name] by rw [List.take_add_one, hu]; simp)
          have HBD := Lib.hid (fun n => below_draws HBr2.out n)
          have HBD2 := Lib.hid (fun n => below_draws HBx2.out n)
          by_cases he : u.name = a.name
          · have c1 : (u.name == a.name) = true := beq_iff_eq.2 he
            have HV := Lib.hid (N2.out (List.mem_map.2 ⟨u, (by have h9 := List.getElem?_eq_some_iff.1 hu; exact List.mem_take_iff_getElem.2 ⟨k, by omega, h9.2⟩), he⟩))
            clear f0 hbx hu hq2 hp2 he N2 N4 HNo q3
            go_wp2_with fail
            go_quiet (fail)
            go_wp2
            rw [HEE.out, HV.out]
            exact ⟨rfl, HBD2.out _⟩
          · have c1 : (u.name == a.name) = false := beq_eq_false_iff_ne.2 he
            have HNo2 := Lib.hid (show a.name ∉ (ats.take (k + 1)).map (·.name) by
              rw [HTk.out]
              intro h
              rcases List.mem_append.1 h with h | h
              · exact HNo.out h
              · exact he (List.mem_singleton.1 h).symm)
            clear f0 hbx hu hq2 hp2 he N2 N4 HNo HTk q3
            go_wp2_with fail
            go_quiet (fail)
            go_wp2
            go_roundg (gk - 1)
            case measure => omega
            case rel => exact ⟨k + 1, by omega, by go_num, Lib.hid (HBD.out _), HNo2⟩
end Go.Proofs.YtcamdnfhnianbaaGreatDoor
/-! MulQ -/
namespace Go.Proofs.YtcamdnfhnianbaaGreatDoor
set_option linter.unusedVariables false
set_option linter.unusedSimpArgs false
open Go.RowKit

/-- a boolean comes back; old cells are kept. -/
def RetB (b : Bool) (w : World) (e : Ending) (w' : World) : Prop := Below w.heap.size w w' ∧ e = .returned (.bool b)
theorem countIs_great {z T : Nat} (h : CountIs z T) : (z ≤ 4096 ↔ T ≤ 4096) := by
  rcases h with h | ⟨h, k⟩ <;> omega
set_option maxHeartbeats 16000000 in
set_option maxRecDepth 100000 in
set_option linter.unusedSimpArgs false in
theorem rgood_any {w : World} {cs : List Value} {n : NodeT} (h : NodeP anyB w cs n) (hs : SmallN 2000000 n) : ∀ w', Below w.heap.size w w' → Calls Tryz.prog 38 #[.agg cs.toArray] w' (RetB (goodT n) w') := by
  intro w' hbw
  have HC := Lib.hid (fun w2 (hb : Below w.heap.size w w2) => rcount_any h 0 w2 (Nat.zero_le _) hb)
  have HF := Lib.hid (fun w2 (hb : Below w.heap.size w w2) => rfine_any h hs 0 1 w2 rfl (Nat.zero_le _) hb)
  have HG1 := Lib.hid (show n.name = [] → goodT n = false from fun h => by unfold goodT; rw [decide_eq_true h, Bool.not_true, Bool.and_false])
  have HG2 := Lib.hid (show n.name ≠ [] → goodT n = (goodN 0 n && decide (countN n ≤ 4096)) from fun h => by unfold goodT; rw [decide_eq_false h, Bool.not_false, Bool.and_true])
  have HBw := Lib.hid hbw
  obtain ⟨av, kv, rfl, -, -⟩ := h.parts
  generalize goodT n = G at *
  generalize goodN 0 n = F at *
  generalize countN n = C at *
  obtain ⟨t, sp, nm, ats, ks⟩ := n
  simp only [NodeT.text, NodeT.space, NodeT.name, NodeT.attrs, NodeT.kids] at *
  have hb1 : Below w'.heap.size w' (w'.alloc (.cells #[.string ⟨t.toArray⟩, .string ⟨sp.toArray⟩, .string ⟨nm.toArray⟩, av, kv] 36 (0, 0))) := (Below.refl _ _).alloc (Nat.le_refl _) _
  have HQ := Lib.hid (heap_alloc_new w' (.cells #[.string ⟨t.toArray⟩, .string ⟨sp.toArray⟩, .string ⟨nm.toArray⟩, av, kv] 36 (0, 0)))
  have HB1 := Lib.hid hb1
  clear hb1 hs hbw
  obtain ⟨E, hEE⟩ : ∃ E, E = RetB G w' := ⟨_, rfl⟩
  rw [← hEE]
  have HEE := Lib.hid hEE
  clear hEE
  go_enter Tryz.func38, Tryz.ntmps38
  by_cases hn : nm = []
  · have b1 : (nm == []) = true := by rw [hn]; rfl
    have b2 : nm.isEmpty = true := by rw [hn]; rfl
    have b3 : (nm != []) = false := by rw [hn]; rfl
    have HV := Lib.hid (HG1.out hn)
    clear hn HC HF HG1 HG2
    go_wp2
    rw [HEE.out, HV.out]
    exact ⟨HB1.out, rfl⟩
  · have b1 : (nm == []) = false := beq_eq_false_iff_ne.2 hn
    have b2 : nm.isEmpty = false := by cases h : nm with | nil => exact absurd h hn | cons => rfl
    have b3 : (nm != []) = true := by rw [bne, b1]; rfl
    have HV := Lib.hid (HG2.out hn)
    clear hn HG1 HG2
    go_wp2_with fail
    go_at_call 66
    refine (HC.out _ (HBw.out.trans (HB1.out.mono HBw.out.size))).mono ?_
    rintro e w5 ⟨hb5, z, rfl, hz⟩
    have HB5 := Lib.hid (HB1.out.trans (hb5.mono HB1.out.size))
    have hz2 := countIs_great hz
    have hq := (hb5.block _ (xlt HQ.out)).trans HQ.out
    have x0 := xat hq 0
    have x1 := xat hq 1
    have x2 := xat hq 2
    have x3 := xat hq 3
    have x4 := xat hq 4
    simp only [List.getElem?_toArray, List.getElem?_cons_zero, List.getElem?_cons_succ] at x0 x1 x2 x3 x4
    rw [Nat.zero_add] at hz2
    clear hz hb5 HC hq
    by_cases hz4 : z ≤ 4096
    · have HV2 := Lib.hid (show G = F by rw [HV.out, decide_eq_true (hz2.1 hz4), Bool.and_true])
      have z1 : (z : Int) ≤ 4096 := by omega
      have z2 : decide ((z : Int) ≤ 4096) = true := decide_eq_true z1
      clear hz2 hz4 HV
      go_wp2_with (go_at_call 67; refine (HF.out _ (HBw.out.trans (HB5.out.mono HBw.out.size))).mono ?_; rintro e w6 ⟨rfl, hb6⟩)
      rw [HEE.out, HV2.out]
      exact ⟨HB5.out.trans (hb6.mono HB5.out.size), rfl⟩
    · have HV2 := Lib.hid (show G = false by rw [HV.out, decide_eq_false (fun h => hz4 (hz2.2 h)), Bool.and_false])
      have z1 : ¬ (z : Int) ≤ 4096 := by omega
      have z2 : decide ((z : Int) ≤ 4096) = false := decide_eq_false z1
      clear hz2 hz4 HV
      go_wp2
      rw [HEE.out, HV2.out]
      exact ⟨HB5.out, rfl⟩
end Go.Proofs.YtcamdnfhnianbaaGreatDoor
/-! MulR -/
namespace Go.Proofs.YtcamdnfhnianbaaGreatDoor
set_option linter.unusedVariables false
set_option linter.unusedSimpArgs false
open Go.RowKit

set_option maxHeartbeats 16000000 in
set_option maxRecDepth 100000 in
set_option linter.unusedSimpArgs false in
theorem rgoodM_any (t : ToldT) (pA : Option Addr) (pc : Nat) (w : World) (hp : PartsP anyB w (.slice pA t.parts.length pc) t.parts) (hs : ∀ p ∈ t.parts, ∀ n ∈ p.props, SmallN 2000000 n) (hl : t.href.length ≤ 1000000000) :
    Calls Tryz.prog 14 #[.agg #[.string ⟨t.href.toArray⟩, .slice pA t.parts.length pc]] w (RetB (goodRefM t) w) := by
  obtain ⟨-, hpc, hpm, hpk⟩ := part_at hp.1
  unfold maxLen at hpm
  obtain ⟨V, hV⟩ : ∃ V, t.parts.all goodP = V := ⟨_, rfl⟩
  have HM := Lib.hid (show goodRefM t = (V && !decide (t.href = []) && lettersX t.href) by rw [← hV]; rfl)
  have hb0 : Below w.heap.size w (w.alloc (.cells #[.string ⟨t.href.toArray⟩, .slice pA t.parts.length pc] 42 (0, 0))) := (Below.refl _ _).alloc (Nat.le_refl _) _
  have HQ0 := Lib.hid (heap_alloc_new w (.cells #[.string ⟨t.href.toArray⟩, .slice pA t.parts.length pc] 42 (0, 0)))
  have HB0 := Lib.hid hb0
  have HV := Lib.hid (show (t.parts.drop 0).all goodP = V from hV)
  have HPk := Lib.hid hpk
  have HSm := Lib.hid hs
  obtain ⟨E, hEE⟩ : ∃ E, E = RetB (goodRefM t) w := ⟨_, rfl⟩
  rw [← hEE]
  have HEE := Lib.hid hEE
  clear hp hs hEE hV hb0 hpk
  go_enter Tryz.func14, Tryz.ntmps14
  go_wp2_with fail
  generalize w.alloc (.cells #[.string ⟨t.href.toArray⟩, .slice pA t.parts.length pc] 42 (0, 0)) = w0 at *
  obtain ⟨q, hq⟩ : ∃ q, q = w.heap.size := ⟨_, rfl⟩
  rw [← hq] at HQ0 ⊢
  clear hq
  go_loopg [3] t.parts.length (fun gk v10 wr => ∃ i : Nat, i + gk = t.parts.length ∧ v10 = .int .i64 i ∧ Hid (Below w0.heap.size w0 wr) ∧ Hid ((t.parts.drop i).all goodP = V))
  case atStart => exact ⟨0, by omega, rfl, Lib.hid (Below.refl _ _), HV⟩
  case round =>
    obtain ⟨i, hig, rfl, HBr, HAll⟩ := hrel
    have HBw := Lib.hid (HB0.out.trans (HBr.out.mono HB0.out.size))
    clear HV
    have hq1 := (HBr.out.block _ (xlt HQ0.out)).trans HQ0.out
    have x1 := xat hq1 1
    have x0 := xat hq1 0
    simp only [List.getElem?_toArray, List.getElem?_cons_zero, List.getElem?_cons_succ] at x0 x1
    clear hq1
    rcases hd : t.parts.drop i with _ | ⟨p, rest⟩
    · have hi2 : i = t.parts.length := by have := drop_nil hd; omega
      subst hi2
      have hV : V = true := by have := HAll.out; rw [hd] at this; exact this.symm
      clear hd HAll HPk
      by_cases hh : t.href = []
      · have HF := Lib.hid (show goodRefM t = false by rw [HM.out, decide_eq_true hh, Bool.not_true, Bool.and_false, Bool.false_and])
        have b1 : (t.href == []) = true := by rw [hh]; rfl
        have b2 : t.href.isEmpty = true := by rw [hh]; rfl
        have b3 : (t.href != []) = false := by rw [hh]; rfl
        clear hh HM hV
        go_wp2
        rw [HEE.out, HF.out]
        exact ⟨HBw.out, rfl⟩
      · have HF := Lib.hid (show goodRefM t = lettersX t.href by rw [HM.out, hV, decide_eq_false hh]; simp)
        have b1 : (t.href == []) = false := beq_eq_false_iff_ne.2 hh
        have b2 : t.href.isEmpty = false := by cases h : t.href with | nil => exact absurd h hh | cons => rfl
        have b3 : (t.href != []) = true := by rw [bne, b1]; rfl
        have HLt := Lib.hid (fun w2 => xrletters_any t.href w2 hl)
        clear hh HM hV
        go_wp2_with (go_at_call 39; refine (HLt.out _).mono ?_; rintro e w5 ⟨rfl, hb5⟩)
        rw [HEE.out, HF.out]
        exact ⟨HBw.out.trans (hb5.mono HBw.out.size), rfl⟩
    · obtain ⟨hlt, hx, hr⟩ := drop_consA hd
      obtain ⟨b, o, kA, kc, rfl, hbl, e0, e1, hn⟩ := HPk.out i p hx
      have d0 := (HBw.out.cell (p := ⟨b, o + i * 2, none⟩) hbl).trans e0
      have d1 := (HBw.out.cell (p := ⟨b, o + i * 2 + 1, none⟩) hbl).trans e1
      have k1 : (i : Int) < t.parts.length := by omega
      have k2 : (0 : Int) ≤ i := by omega
      obtain ⟨n1, n2⟩ := all_next hd HAll.out hr
      have HSp := Lib.hid (HSm.out p (List.mem_of_getElem? hx))
      obtain ⟨-, hkc, hkm, hkk⟩ := kid_at hn
      unfold maxLen at hkm
      have HKk := Lib.hid hkk
      have N1 := Lib.hid n1
      have N2 := Lib.hid n2
      have hg : goodP p = (!decide (reasonS p.status = []) && p.props.all goodT) := rfl
      have HG := Lib.hid hg
      obtain ⟨st, props⟩ := p
      simp only at d0 d1 HSp hkc HKk HG
      have HRn := Lib.hid (fun w => rreason_any st w)
      have hb2 : Below wr.heap.size wr (wr.alloc (.cells #[.int .i64 st, .slice kA props.length kc] 47 (0, 0))) := (Below.refl _ _).alloc (Nat.le_refl _) _
      have HQ2 := Lib.hid (heap_alloc_new wr (.cells #[.int .i64 st, .slice kA props.length kc] 47 (0, 0)))
      have HB2 := Lib.hid (HBr.out.trans (hb2.mono HBr.out.size))
      have HBw2 := Lib.hid (HBw.out.trans (hb2.mono HBw.out.size))
      clear e0 e1 hd hx hr hn hkk n1 n2 hg HAll hb2 x0
      by_cases hrs : reasonS st = []
      · have b1 : (reasonS st == []) = true := by rw [hrs]; rfl
        have b2 : (reasonS st).isEmpty = true := by rw [hrs]; rfl
        have HF := Lib.hid (show goodRefM t = false by rw [HM.out, N2.out (by rw [HG.out, decide_eq_true hrs]; rfl)]; rfl)
        clear hrs HG HM N1 N2
        generalize reasonS st = R at *
        go_wp2_with (go_at_call 37; refine (HRn.out _).mono ?_; rintro e w5 ⟨rfl, rfl⟩)
        rw [HEE.out, HF.out]
        exact ⟨HBw2.out, rfl⟩
      · have b1 : (reasonS st == []) = false := beq_eq_false_iff_ne.2 hrs
        have b2 : (reasonS st).isEmpty = false := by cases h : reasonS st with | nil => exact absurd h hrs | cons => rfl
        have HG2 := Lib.hid (show goodP ⟨st, props⟩ = props.all goodT by rw [HG.out, decide_eq_false hrs]; rfl)
        clear hrs HG
        generalize reasonS st = R at *
        go_wp2_with (go_at_call 37; refine (HRn.out _).mono ?_; rintro e w5 ⟨rfl, rfl⟩)
        generalize wr.alloc (.cells #[.int .i64 st, .slice kA props.length kc] 47 (0, 0)) = w2 at *
        obtain ⟨q2, hq2⟩ : ∃ q, q = wr.heap.size := ⟨_, rfl⟩
        rw [← hq2] at HQ2 ⊢
        clear hq2 d0 d1 x1
        obtain ⟨V2, hV2⟩ : ∃ V, props.all goodT = V := ⟨_, rfl⟩
        rw [hV2] at HG2
        go_loopg [5] props.length (fun gk2 v21 wr2 => ∃ k : Nat, k + gk2 = props.length ∧ v21 = .int .i64 k ∧ Hid (Below w2.heap.size w2 wr2) ∧ Hid ((props.drop k).all goodT = V2))
        case atStart => exact ⟨0, by omega, rfl, Lib.hid (Below.refl _ _), Lib.hid hV2⟩
        case round =>
          obtain ⟨k, hkg, rfl, HBk, HAll2⟩ := hrel
          clear hV2
          have HBw3 := Lib.hid (HBw2.out.trans (HBk.out.mono HBw2.out.size))
          have hq3 := (HBk.out.block _ (xlt HQ2.out)).trans HQ2.out
          have y1 := xat hq3 1
          simp only [List.getElem?_toArray, List.getElem?_cons_zero, List.getElem?_cons_succ] at y1
          clear hq3
          rcases hd : props.drop k with _ | ⟨x, rest2⟩
          · have hk2 : k = props.length := by have := drop_nil hd; omega
            subst hk2
            have hV2 : V2 = true := by have := HAll2.out; rw [hd] at this; exact this.symm
            have HAll3 := Lib.hid (show (t.parts.drop (i + 1)).all goodP = V from N1.out (by rw [HG2.out]; exact hV2))
            have HB4 := Lib.hid (HB2.out.trans (HBk.out.mono HB2.out.size))
            clear hd HAll2 hV2 HG2 N1 N2
            go_wp2
            go_roundg (t.parts.length - (i + 1))
            case measure => omega
            case rel => exact ⟨i + 1, by omega, by go_num, HB4, HAll3⟩
          · obtain ⟨hlt2, hx, hr⟩ := drop_consA hd
            obtain ⟨b2, o2, aA2, ac2, kA2, kc2, rfl, hbl2, e0, e1, e2, e3, e4, fa2, fk2⟩ := HKk.out k x hx
            have d0 := (HBw3.out.cell (p := ⟨b2, o2 + k * 5, none⟩) hbl2).trans e0
            have d1 := (HBw3.out.cell (p := ⟨b2, o2 + k * 5 + 1, none⟩) hbl2).trans e1
            have d2 := (HBw3.out.cell (p := ⟨b2, o2 + k * 5 + 2, none⟩) hbl2).trans e2
            have d3 := (HBw3.out.cell (p := ⟨b2, o2 + k * 5 + 3, none⟩) hbl2).trans e3
            have d4 := (HBw3.out.cell (p := ⟨b2, o2 + k * 5 + 4, none⟩) hbl2).trans e4
            have i1 : (k : Int) < props.length := by omega
            have i2 : (0 : Int) ≤ k := by omega
            obtain ⟨n1, n2⟩ := all_next hd HAll2.out hr
            have HGd := Lib.hid (rgood_any (node_of (fa2.under HBw3.out) (fk2.under HBw3.out)) (HSp.out x (List.mem_of_getElem? hx)) wr (Below.refl _ _))
            have N3 := Lib.hid n1
            have N4 := Lib.hid n2
            clear e0 e1 e2 e3 e4 hd hx hr fa2 fk2 n1 n2 HAll2
            go_wp2_with fail
            refine HGd.out.mono ?_
            rintro e w5 ⟨hb5, rfl⟩
            have HB5 := Lib.hid (HBk.out.trans (hb5.mono HBk.out.size))
            have HBw5 := Lib.hid (HBw3.out.trans (hb5.mono HBw3.out.size))
            clear hb5 HGd HBk HBw3 d0 d1 d2 d3 d4 y1
            cases hgx : goodT x
            · have HF := Lib.hid (show goodRefM t = false by rw [HM.out, N2.out (by rw [HG2.out]; exact N4.out hgx)]; rfl)
              clear hgx HM N1 N2 N3 N4
              go_wp2
              rw [HEE.out, HF.out]
              exact ⟨HBw5.out, rfl⟩
            · have HAll3 := Lib.hid (N3.out hgx)
              clear hgx N3 N4
              go_wp2
              go_roundg (gk - 1)
              case measure => omega
              case rel => exact ⟨k + 1, by omega, by go_num, HB5, HAll3⟩
end Go.Proofs.YtcamdnfhnianbaaGreatDoor
/-! MulS -/
namespace Go.Proofs.YtcamdnfhnianbaaGreatDoor
set_option linter.unusedVariables false
set_option linter.unusedSimpArgs false
open Go.RowKit

theorem digS_last (m : Nat) (h : m / 10 = 0) : digS m = [UInt8.ofNat (48 + m % 10)] := by
  unfold digS digR
  rw [if_pos h]
  rfl
theorem digR_fuel : ∀ (f g n : Nat), n < f → n < g → digR f n = digR g n
  | 0, _, _, h, _ => absurd h (Nat.not_lt_zero _)
  | _ + 1, 0, _, _, h => absurd h (Nat.not_lt_zero _)
  | f + 1, g + 1, n, hf, hg => by
    unfold digR
    by_cases h : n / 10 = 0
    · rw [if_pos h, if_pos h]
    · rw [if_neg h, if_neg h, digR_fuel f g (n / 10) (by omega) (by omega)]
theorem digS_more (m : Nat) (h : m / 10 ≠ 0) : digS m = digS (m / 10) ++ [UInt8.ofNat (48 + m % 10)] := by
  unfold digS
  rw [show digR (m + 1) m = UInt8.ofNat (48 + m % 10) :: digR m (m / 10) by conv => lhs; unfold digR; rw [if_neg h]]
  rw [List.reverse_cons, digR_fuel m (m / 10 + 1) (m / 10) (by omega) (by omega)]
theorem byte_dig (m : Nat) : ((UInt8.ofNat (48 + m % 10)).toNat : Int) = 48 + (m : Int) % 10 := by
  rw [UInt8.toNat_ofNat']; omega
set_option maxHeartbeats 1000000 in
set_option maxRecDepth 100000 in
set_option linter.unusedSimpArgs false in
theorem rdigits_any (n : Nat) (w : World) (hn : n ≤ 1000000000000) :
    Calls Tryz.prog 42 #[.int .i64 n] w (Ret (.string ⟨(digS n).toArray⟩) w) := by
  obtain ⟨D, hD⟩ : ∃ D, digS n = D := ⟨_, rfl⟩
  rw [hD]
  go_enter Tryz.func42, Tryz.ntmps42
  go_wp2
  go_loopw [0, 3] (fun t u wr => ∃ (m : Nat) (s : List UInt8), m + s.length ≤ n ∧ t = .int .i64 m ∧ u = .string ⟨s.toArray⟩ ∧ Hid (digS m ++ s = D) ∧ Below w.heap.size w wr) (fun t _ _ => (intOf t).toNat)
  case atStart => exact ⟨n, [], by simp, rfl, rfl, by rw [List.append_nil]; exact hD, Below.refl _ _⟩
  case round =>
    obtain ⟨m, s, hm, rfl, rfl, HM, hb⟩ := hrel
    clear hD
    have hbd := byte_dig m
    have hb2 : Below w.heap.size w (wr.alloc (.cells #[.int .u8 (UInt8.ofNat (48 + m % 10)).toNat] 5)) := hb.alloc hb.size _
    have hcv := conv_bytes (wr.alloc (.cells #[.int .u8 (UInt8.ofNat (48 + m % 10)).toNat] 5)) (.slice (some ⟨wr.heap.size, 0, none⟩) 1 1) [UInt8.ofNat (48 + m % 10)] (BW.rd (BW.lit wr [UInt8.ofNat (48 + m % 10)]) 1 (Nat.le_refl _) (by unfold maxLen; omega))
    have HM1 : m / 10 = 0 → [UInt8.ofNat (48 + m % 10)] ++ s = D := fun h => by rw [← digS_last m h]; exact HM.out
    have HM2 : m / 10 ≠ 0 → Hid (digS (m / 10) ++ ([UInt8.ofNat (48 + m % 10)] ++ s) = D) := fun h => by show digS (m / 10) ++ ([UInt8.ofNat (48 + m % 10)] ++ s) = D; rw [← List.append_assoc, ← digS_more m h]; exact HM.out
    generalize UInt8.ofNat (48 + m % 10) = c at *
    rw [hbd] at hcv hb2
    clear HM hbd
    have hsl : s.length + 1 ≤ 9223372036854775807 := by omega
    by_cases h0 : m / 10 = 0
    · have h1 := Lib.hid (HM1 h0)
      have h0b : ((m : Int) / 10 == 0) = true := by rw [beq_iff_eq]; omega
      clear HM1 HM2 h0
      go_wp2
      go_ret
      refine ⟨rets h1.out, hb2⟩
    · have h1 := Lib.hid (HM2 h0)
      have h0b : ((m : Int) / 10 == 0) = false := by rw [beq_eq_false_iff_ne]; omega
      have h2 : m / 10 + (s.length + 1) ≤ n := by omega
      have h3 : m / 10 < m := by omega
      clear HM1 HM2 h0
      go_wp2
      go_roundw
      case rel => exact ⟨m / 10, c :: s, by rw [List.length_cons]; exact h2, by go_num, rfl, h1, hb2⟩
      case measure => simp [intOf]; omega

/-- the text that docketref12.Digits tells of a code. -/
theorem rdigits_code (n : Int) (w : World) (h : reasonS n ≠ []) : Calls Tryz.prog 42 #[.int .i64 n] w (Ret (.string ⟨(Lib.itoa n).toArray⟩) w) := by
  obtain ⟨k, rfl, hk⟩ := codes_nat n (reason_codes h)
  rw [digS_itoa]
  exact rdigits_any k w (by omega)
set_option maxHeartbeats 2000000 in
set_option maxRecDepth 100000 in
set_option linter.unusedSimpArgs false in
theorem mT_ex (nm tx : List UInt8) (w : World) : Calls Tryz.prog 40 #[.string ⟨nm.toArray⟩, .string ⟨tx.toArray⟩] w (fun e w' => Below w.heap.size w w' ∧ ∃ b, w.heap.size ≤ b ∧ e = .returned (.agg #[.string ⟨#[]⟩, .string ⟨#[68, 65, 86, 58]⟩, .string ⟨nm.toArray⟩, .slice none 0 0, .slice (some ⟨b, 0, none⟩) 1 1]) ∧ w'.heap[b]? = some (.cells #[.string ⟨tx.toArray⟩, .string ⟨#[]⟩, .string ⟨#[]⟩, .slice none 0 0, .slice none 0 0] 36 (0, 0))) := by
  obtain ⟨E, hEE⟩ : ∃ E, E = (fun (e : Ending) (w' : World) => Below w.heap.size w w' ∧ ∃ b, w.heap.size ≤ b ∧ e = .returned (.agg #[.string ⟨#[]⟩, .string ⟨#[68, 65, 86, 58]⟩, .string ⟨nm.toArray⟩, .slice none 0 0, .slice (some ⟨b, 0, none⟩) 1 1]) ∧ w'.heap[b]? = some (.cells #[.string ⟨tx.toArray⟩, .string ⟨#[]⟩, .string ⟨#[]⟩, .slice none 0 0, .slice none 0 0] 36 (0, 0))) := ⟨_, rfl⟩
  rw [← hEE]
  have HEE := Lib.hid hEE
  clear hEE
  go_enter Tryz.func40, Tryz.ntmps40
  go_wp2_with (go_at_call 41; refine (mD_ex _ _ _ _ _).mono ?_; rintro e w4 ⟨rfl, rfl⟩)
  have hL : ∃ l, l = [Obj.cells #[.string ⟨#[]⟩, .string ⟨#[68, 65, 86, 58]⟩, .string ⟨nm.toArray⟩, .slice none 0 0, .slice (some ⟨w.heap.size + 1, 0, none⟩) 1 1] 36 (0, 0), .cells #[.string ⟨tx.toArray⟩, .string ⟨#[]⟩, .string ⟨#[]⟩, .slice none 0 0, .slice none 0 0] 36 (0, 0), .cells #[.string ⟨#[]⟩, .string ⟨#[68, 65, 86, 58]⟩, .string ⟨nm.toArray⟩, .slice none 0 0, .slice (some ⟨w.heap.size + 1, 0, none⟩) 1 1] 36 (0, 0)] := ⟨_, rfl⟩
  obtain ⟨l, hl⟩ := hL
  have hb := allocs_below l w
  have h0 := allocs_at l w 0 _ (by rw [hl]; rfl)
  have h1 := allocs_at l w 1 _ (by rw [hl]; rfl)
  rw [hl] at hb h0 h1
  refine bodyPost_ret (results_c1 rfl _ _ _ _ _ _ rfl h0 Tryz.underlying36 rfl (by kernel_rfl)) rfl ?_
  rw [HEE.out]
  exact ⟨hb, w.heap.size + 1, by omega, rfl, h1⟩
end Go.Proofs.YtcamdnfhnianbaaGreatDoor

/-
  Parts of the walks and plain laws of layer 10, joined: XmlTx. Conditions: as each theorem states them.
-/
import Derived.Test.YtkmpilnjhlnmfaaGreatDoorXmlZ26
import Derived.Test.YtkmpilnjhlnmfaaGreatDoorXmlZ27
/-! XmlTx -/
namespace Go.Proofs.YtkmpilnjhlnmfaaGreatDoor
set_option linter.unusedVariables false
set_option linter.unusedSimpArgs false
open Go.RowKit

theorem one_row {α : Type} {n : Nat} {R : World → List Value → α → Prop} {w : World} {b : Nat} {ty : TypeId} {cs : List Value} {x : α} (h : w.heap[b]? = some (.cells cs.toArray ty (0, 0))) (hl : cs.length = n) (hr : R w cs x) : TabP n R anyB w (.slice (some ⟨b, 0, none⟩) 1 1) [x] := by
  refine ⟨⟨_, 1, rfl, Nat.le_refl _, by unfold maxLen; decide, fun j y hj => ?_⟩, fun _ _ _ => trivial⟩
  have hj0 : j = 0 := by have := (List.getElem?_eq_some_iff.1 hj).1; simp at this; exact this
  subst hj0
  obtain rfl : x = y := Option.some.inj hj
  refine ⟨b, 0, rfl, xlt h, cs, hl, fun k u hk => ?_, hr⟩
  rw [xat h, ← hk]
  simp
theorem small_textA {s v : List UInt8} (h : s.length + v.length ≤ 9000) : SmallN 1000000 (textA s v) := by
  unfold textA
  refine .mk _ _ _ _ _ (by simp) (by simp) (by simp) (by simp) ?_ ?_ ?_
  · intro a ha
    simp only [List.mem_cons, List.not_mem_nil, or_false] at ha
    subst ha
    exact ⟨by simp, by show v.length ≤ _; omega⟩
  · split <;> simp
  · intro k hk
    split at hk
    · cases hk
    · simp only [List.mem_cons, List.not_mem_nil, or_false] at hk
      subst hk
      exact SmallN.text (by omega)
theorem three_alloc (w : World) (a b c : Obj) : Below w.heap.size w (((w.alloc a).alloc b).alloc c) ∧ (((w.alloc a).alloc b).alloc c).heap[w.heap.size]? = some a ∧ (((w.alloc a).alloc b).alloc c).heap[w.heap.size + 1]? = some b ∧ (((w.alloc a).alloc b).alloc c).heap[w.heap.size + 1 + 1]? = some c := by
  have s1 : (w.alloc a).heap.size = w.heap.size + 1 := World.size_alloc ..
  have s2 : ((w.alloc a).alloc b).heap.size = w.heap.size + 1 + 1 := (World.size_alloc ..).trans (by rw [s1])
  have b1 : Below w.heap.size w (w.alloc a) := (Below.refl _ _).alloc (Nat.le_refl _) _
  have b2 := b1.alloc b1.size b
  refine ⟨b2.alloc b2.size c, ?_, ?_, ?_⟩
  · rw [heap_alloc_old _ _ (by rw [s2]; omega), heap_alloc_old _ _ (by rw [s1]; omega)]
    exact heap_alloc_new w a
  · rw [heap_alloc_old _ _ (by rw [s2]; omega)]
    have := heap_alloc_new (w.alloc a) b
    rwa [s1] at this
  · have := heap_alloc_new ((w.alloc a).alloc b) c
    rwa [s2] at this
set_option maxHeartbeats 16000000 in
set_option maxRecDepth 100000 in
set_option linter.unusedSimpArgs false in
theorem law_text (s v : List UInt8) (w : World) (hs : s.length ≤ 9223372036854775807) (hv : v.length ≤ 9223372036854775807) (hsv : s.length + v.length ≤ 9223372036854775807) (hE : XEnv w) : Calls Tryz.prog 5 #[.string ⟨s.toArray⟩, .string ⟨v.toArray⟩] w (Ret (.bool true) w) := by
  have HE := Lib.hid hE
  have HFx := Lib.hid (fun w' (hb : Below w.heap.size w w') => xfixed_any w' (hE.below hb))
  have HPa := Lib.hid (fun t w' (hb : Below w.heap.size w w') (ht : t.length ≤ 2 ^ 63 - 1) => xparseV t w' ht (hE.below hb))
  obtain ⟨E, hEE⟩ : ∃ E, E = Ret (.bool true) w := ⟨_, rfl⟩
  rw [← hEE]
  have HEE := Lib.hid hEE
  clear hE hEE
  have m1 : IntKind.i64.wrap ((s.length : Int) + v.length) = (s.length : Int) + v.length := IntWalk.i64_in _ (by omega)
  by_cases hbig : 9000 < s.length + v.length
  · have j1 : (9000 : Int) < (s.length : Int) + v.length := by omega
    go_enter Tryz.func5, Tryz.ntmps5
    go_wp2_with fail
    refine (HFx.out w (Below.refl _ _)).mono ?_
    rintro e w1 ⟨rfl, hb1⟩
    have HB1 := Lib.hid hb1
    clear hb1
    go_wp2_with fail
    refine (HFx.out w1 HB1.out).mono ?_
    rintro e w2 ⟨rfl, hb2⟩
    go_wp2
    rw [HEE.out]
    exact ⟨rfl, HB1.out.trans (hb2.mono HB1.out.size)⟩
  have j1 : ¬ (9000 : Int) < (s.length : Int) + v.length := by omega
  have h9 : s.length + v.length ≤ 9000 := by omega
  have HL1 := Lib.hid (fun w' => xrletters_any s w' (by omega))
  have HL2 := Lib.hid (fun w' => xrletters_any v w' (by omega))
  go_enter Tryz.func5, Tryz.ntmps5
  go_wp2_with fail
  refine (HFx.out w (Below.refl _ _)).mono ?_
  rintro e w1 ⟨rfl, hb1⟩
  have HB1 := Lib.hid hb1
  clear hb1 HFx
  by_cases hs0 : s = []
  · subst hs0
    go_wp2_with fail
    obtain ⟨hb4, hA4, hB4, hC4⟩ := three_alloc w1 (.cells #[.string ⟨#[118]⟩, .string ⟨v.toArray⟩] 36 (0, 0)) (.cells #[.string ⟨#[]⟩, .string ⟨#[]⟩, .string ⟨#[]⟩, .slice none 0 0, .slice none 0 0] 28 (0, 0)) (.cells #[.string ⟨#[]⟩, .string ⟨#[]⟩, .string ⟨#[97]⟩, .slice (some ⟨w1.heap.size, 0, none⟩) 1 1, .slice none 0 0] 28 (0, 0))
    generalize ((w1.alloc (.cells #[.string ⟨#[118]⟩, .string ⟨v.toArray⟩] 36 (0, 0))).alloc (.cells #[.string ⟨#[]⟩, .string ⟨#[]⟩, .string ⟨#[]⟩, .slice none 0 0, .slice none 0 0] 28 (0, 0))).alloc (.cells #[.string ⟨#[]⟩, .string ⟨#[]⟩, .string ⟨#[97]⟩, .slice (some ⟨w1.heap.size, 0, none⟩) 1 1, .slice none 0 0] 28 (0, 0)) = w4 at *
    obtain ⟨q0, hq0⟩ : ∃ q, q = w1.heap.size := ⟨_, rfl⟩
    have HB4 := Lib.hid (HB1.out.trans (hb4.mono HB1.out.size))
    rw [← hq0] at hA4 hB4 hC4 ⊢
    clear hb4 hq0 HB1
    have HT := Lib.hid (show TreeV w4 (.mk [] [] [97] [⟨[118], v⟩] []) (some ⟨q0, 0, none⟩) 1 none 0 from ⟨one_row (cs := [.string ⟨#[118]⟩, .string ⟨v.toArray⟩]) hA4 rfl rfl, TabP.nil _ _ _ _⟩)
    have HC4 := Lib.hid hC4
    have HN := Lib.hid (show textA [] v = .mk [] [] [97] [⟨[118], v⟩] [] by unfold textA; first | rw [if_neg hs0] | rfl)
    have hsm := small_textA (s := []) (v := v) (by first | omega | (simp only [List.length_nil]; omega))
    have hwx := write_textA (s := []) (v := v) (by first | omega | (simp only [List.length_nil]; omega))
    have hfl := form_textA_len (s := []) (v := v) (by first | omega | (simp only [List.length_nil]; omega))
    have hgt := good_textA [] v
    rw [HN.out] at hsm hwx hfl hgt
    have HW := Lib.hid (xwrite_any (.mk [] [] [97] [⟨[118], v⟩] []) _ _ w4 HT.out.at_ HT.out.kd hsm (HE.out.below HB4.out) (by omega))
    have HPF := Lib.hid (fun (hg : goodT (.mk [] [] [97] [⟨[118], v⟩] []) = true) => parse_form hg hfl)
    rw [hwx] at HW
    have HFL := Lib.hid hfl
    have HGT := Lib.hid hgt
    clear hsm hwx hfl hgt hA4 hB4 hC4
    generalize formN [] (.mk [] [] [97] [⟨[118], v⟩] []) = F at *
    cases hl1 : lettersX []
    · rw [hl1] at HW
      have h1 := HL1.out
      rw [hl1] at h1
      have HLa := Lib.hid h1
      clear hl1 h1 HL1 HL2 HPF HGT HPa
      refine HW.out.mono ?_
      rintro e w5 ⟨hb5, rfl⟩
      have HB5 := Lib.hid (HB4.out.trans (hb5.mono HB4.out.size))
      clear hb5 HW
      go_wp2_with fail
      refine (HLa.out w5).mono ?_
      rintro e w6 ⟨rfl, hb6⟩
      go_wp2
      rw [HEE.out]
      exact ⟨rfl, HB5.out.trans (hb6.mono HB5.out.size)⟩
    cases hl2 : lettersX v
    · rw [hl1, hl2] at HW
      have h1 := HL1.out
      have h2 := HL2.out
      rw [hl1] at h1
      rw [hl2] at h2
      have HLa := Lib.hid h1
      have HLb := Lib.hid h2
      clear hl1 h1 hl2 h2 HL1 HL2 HPF HGT HPa
      refine HW.out.mono ?_
      rintro e w5 ⟨hb5, rfl⟩
      have HB5 := Lib.hid (HB4.out.trans (hb5.mono HB4.out.size))
      clear hb5 HW
      go_wp2_with fail
      refine (HLa.out w5).mono ?_
      rintro e w6 ⟨rfl, hb6⟩
      have HB6 := Lib.hid (HB5.out.trans (hb6.mono HB5.out.size))
      clear hb6
      go_wp2_with fail
      refine (HLb.out w6).mono ?_
      rintro e w7 ⟨rfl, hb7⟩
      go_wp2
      rw [HEE.out]
      exact ⟨rfl, HB6.out.trans (hb7.mono HB6.out.size)⟩
    rw [hl1, hl2] at HW
    have h1 := HL1.out
    have h2 := HL2.out
    rw [hl1] at h1
    rw [hl2] at h2
    have HLa := Lib.hid h1
    have HLb := Lib.hid h2
    have HPf := Lib.hid (HPF.out (by rw [HGT.out, hl1, hl2]; rfl))
    clear hl1 h1 hl2 h2 HL1 HL2 HPF HGT
    refine HW.out.mono ?_
    rintro e w5 ⟨hb5, rfl⟩
    have HB5 := Lib.hid (HB4.out.trans (hb5.mono HB4.out.size))
    have HT5 := Lib.hid (HT.out.below hb5)
    have HC5 := Lib.hid ((hb5.block _ (xlt HC4.out)).trans HC4.out)
    clear hb5 HW HT HC4
    go_wp2_with fail
    refine (HLa.out w5).mono ?_
    rintro e w6 ⟨rfl, hb6⟩
    have HB6 := Lib.hid (HB5.out.trans (hb6.mono HB5.out.size))
    have HT6 := Lib.hid (HT5.out.below hb6)
    have HC6 := Lib.hid ((hb6.block _ (xlt HC5.out)).trans HC5.out)
    clear hb6 HT5 HC5
    go_wp2_with fail
    refine (HLb.out w6).mono ?_
    rintro e w7 ⟨rfl, hb7⟩
    have HB7 := Lib.hid (HB6.out.trans (hb7.mono HB6.out.size))
    have HT7 := Lib.hid (HT6.out.below hb7)
    have HC7 := Lib.hid ((hb7.block _ (xlt HC6.out)).trans HC6.out)
    clear hb7 HT6 HC6
    go_wp2_with fail
    refine (HPa.out F w7 HB7.out (by have := HFL.out; omega)).mono ?_
    rw [HPf.out]
    rintro e w8 ⟨hb8, aA, ac, kA, kc, rfl, ht8⟩
    rw [show outE (.ok (.mk [] [] [97] [⟨[118], v⟩] [])) = 0 from rfl]
    unfold treeCs outN
    unfold outN at ht8
    have hb9 := (Below.refl w8.heap.size w8).alloc (Nat.le_refl _) (.cells #[.string ⟨#[]⟩, .string ⟨#[]⟩, .string ⟨#[97]⟩, .slice aA 1 ac, .slice kA 0 kc] 28 (0, 0))
    have HS := Lib.hid (same_tree (ht8.below hb9) ((HT7.out.below hb8).below hb9))
    have HB9 := Lib.hid ((HB7.out.trans (hb8.mono HB7.out.size)).trans (hb9.mono (HB7.out.trans (hb8.mono HB7.out.size)).size))
    have hc9 := (hb9.block _ (xlt ((hb8.block _ (xlt HC7.out)).trans HC7.out))).trans ((hb8.block _ (xlt HC7.out)).trans HC7.out)
    have x0 := xat hc9 0
    have x1 := xat hc9 1
    have x2 := xat hc9 2
    have x3 := xat hc9 3
    have x4 := xat hc9 4
    simp only [List.getElem?_toArray, List.getElem?_cons_zero, List.getElem?_cons_succ] at x0 x1 x2 x3 x4
    simp only [NodeT.text, NodeT.space, NodeT.name, NodeT.attrs, NodeT.kids, List.length_cons, List.length_nil]
    clear hb8 hb9 ht8 HT7 HC7 hc9 HPa HPf HFL
    go_wp2_with fail
    refine HS.out.mono ?_
    rintro e w10 ⟨rfl, hb10⟩
    go_wp2
    rw [HEE.out]
    exact ⟨rfl, HB9.out.trans (hb10.mono HB9.out.size)⟩
  · have e0 : (s == []) = false := beq_eq_false_iff_ne.2 hs0
    go_wp2_with fail
    obtain ⟨hb4, hA4, hB4, hC4⟩ := three_alloc w1 (.cells #[.string ⟨#[118]⟩, .string ⟨v.toArray⟩] 36 (0, 0)) (.cells #[.string ⟨s.toArray⟩, .string ⟨#[]⟩, .string ⟨#[]⟩, .slice none 0 0, .slice none 0 0] 28 (0, 0)) (.cells #[.string ⟨#[]⟩, .string ⟨#[]⟩, .string ⟨#[97]⟩, .slice (some ⟨w1.heap.size, 0, none⟩) 1 1, .slice (some ⟨w1.heap.size + 1, 0, none⟩) 1 1] 28 (0, 0))
    generalize ((w1.alloc (.cells #[.string ⟨#[118]⟩, .string ⟨v.toArray⟩] 36 (0, 0))).alloc (.cells #[.string ⟨s.toArray⟩, .string ⟨#[]⟩, .string ⟨#[]⟩, .slice none 0 0, .slice none 0 0] 28 (0, 0))).alloc (.cells #[.string ⟨#[]⟩, .string ⟨#[]⟩, .string ⟨#[97]⟩, .slice (some ⟨w1.heap.size, 0, none⟩) 1 1, .slice (some ⟨w1.heap.size + 1, 0, none⟩) 1 1] 28 (0, 0)) = w4 at *
    obtain ⟨q0, hq0⟩ : ∃ q, q = w1.heap.size := ⟨_, rfl⟩
    have HB4 := Lib.hid (HB1.out.trans (hb4.mono HB1.out.size))
    rw [← hq0] at hA4 hB4 hC4 ⊢
    clear hb4 hq0 HB1
    have HT := Lib.hid (show TreeV w4 (.mk [] [] [97] [⟨[118], v⟩] [textN s]) (some ⟨q0, 0, none⟩) 1 (some ⟨q0 + 1, 0, none⟩) 1 from ⟨one_row (cs := [.string ⟨#[118]⟩, .string ⟨v.toArray⟩]) hA4 rfl rfl, one_row (cs := [.string ⟨s.toArray⟩, .string ⟨#[]⟩, .string ⟨#[]⟩, .slice none 0 0, .slice none 0 0]) hB4 rfl (NodeP.text _ _ s)⟩)
    have HC4 := Lib.hid hC4
    have HN := Lib.hid (show textA s v = .mk [] [] [97] [⟨[118], v⟩] [textN s] by unfold textA; first | rw [if_neg hs0] | rfl)
    have hsm := small_textA (s := s) (v := v) (by first | omega | (simp only [List.length_nil]; omega))
    have hwx := write_textA (s := s) (v := v) (by first | omega | (simp only [List.length_nil]; omega))
    have hfl := form_textA_len (s := s) (v := v) (by first | omega | (simp only [List.length_nil]; omega))
    have hgt := good_textA s v
    rw [HN.out] at hsm hwx hfl hgt
    have HW := Lib.hid (xwrite_any (.mk [] [] [97] [⟨[118], v⟩] [textN s]) _ _ w4 HT.out.at_ HT.out.kd hsm (HE.out.below HB4.out) (by omega))
    have HPF := Lib.hid (fun (hg : goodT (.mk [] [] [97] [⟨[118], v⟩] [textN s]) = true) => parse_form hg hfl)
    rw [hwx] at HW
    have HFL := Lib.hid hfl
    have HGT := Lib.hid hgt
    clear hsm hwx hfl hgt hA4 hB4 hC4
    generalize formN [] (.mk [] [] [97] [⟨[118], v⟩] [textN s]) = F at *
    cases hl1 : lettersX s
    · rw [hl1] at HW
      have h1 := HL1.out
      rw [hl1] at h1
      have HLa := Lib.hid h1
      clear hl1 h1 HL1 HL2 HPF HGT HPa
      refine HW.out.mono ?_
      rintro e w5 ⟨hb5, rfl⟩
      have HB5 := Lib.hid (HB4.out.trans (hb5.mono HB4.out.size))
      clear hb5 HW
      go_wp2_with fail
      refine (HLa.out w5).mono ?_
      rintro e w6 ⟨rfl, hb6⟩
      go_wp2
      rw [HEE.out]
      exact ⟨rfl, HB5.out.trans (hb6.mono HB5.out.size)⟩
    cases hl2 : lettersX v
    · rw [hl1, hl2] at HW
      have h1 := HL1.out
      have h2 := HL2.out
      rw [hl1] at h1
      rw [hl2] at h2
      have HLa := Lib.hid h1
      have HLb := Lib.hid h2
      clear hl1 h1 hl2 h2 HL1 HL2 HPF HGT HPa
      refine HW.out.mono ?_
      rintro e w5 ⟨hb5, rfl⟩
      have HB5 := Lib.hid (HB4.out.trans (hb5.mono HB4.out.size))
      clear hb5 HW
      go_wp2_with fail
      refine (HLa.out w5).mono ?_
      rintro e w6 ⟨rfl, hb6⟩
      have HB6 := Lib.hid (HB5.out.trans (hb6.mono HB5.out.size))
      clear hb6
      go_wp2_with fail
      refine (HLb.out w6).mono ?_
      rintro e w7 ⟨rfl, hb7⟩
      go_wp2
      rw [HEE.out]
      exact ⟨rfl, HB6.out.trans (hb7.mono HB6.out.size)⟩
    rw [hl1, hl2] at HW
    have h1 := HL1.out
    have h2 := HL2.out
    rw [hl1] at h1
    rw [hl2] at h2
    have HLa := Lib.hid h1
    have HLb := Lib.hid h2
    have HPf := Lib.hid (HPF.out (by rw [HGT.out, hl1, hl2]; rfl))
    clear hl1 h1 hl2 h2 HL1 HL2 HPF HGT
    refine HW.out.mono ?_
    rintro e w5 ⟨hb5, rfl⟩
    have HB5 := Lib.hid (HB4.out.trans (hb5.mono HB4.out.size))
    have HT5 := Lib.hid (HT.out.below hb5)
    have HC5 := Lib.hid ((hb5.block _ (xlt HC4.out)).trans HC4.out)
    clear hb5 HW HT HC4
    go_wp2_with fail
    refine (HLa.out w5).mono ?_
    rintro e w6 ⟨rfl, hb6⟩
    have HB6 := Lib.hid (HB5.out.trans (hb6.mono HB5.out.size))
    have HT6 := Lib.hid (HT5.out.below hb6)
    have HC6 := Lib.hid ((hb6.block _ (xlt HC5.out)).trans HC5.out)
    clear hb6 HT5 HC5
    go_wp2_with fail
    refine (HLb.out w6).mono ?_
    rintro e w7 ⟨rfl, hb7⟩
    have HB7 := Lib.hid (HB6.out.trans (hb7.mono HB6.out.size))
    have HT7 := Lib.hid (HT6.out.below hb7)
    have HC7 := Lib.hid ((hb7.block _ (xlt HC6.out)).trans HC6.out)
    clear hb7 HT6 HC6
    go_wp2_with fail
    refine (HPa.out F w7 HB7.out (by have := HFL.out; omega)).mono ?_
    rw [HPf.out]
    rintro e w8 ⟨hb8, aA, ac, kA, kc, rfl, ht8⟩
    rw [show outE (.ok (.mk [] [] [97] [⟨[118], v⟩] [textN s])) = 0 from rfl]
    unfold treeCs outN
    unfold outN at ht8
    have hb9 := (Below.refl w8.heap.size w8).alloc (Nat.le_refl _) (.cells #[.string ⟨#[]⟩, .string ⟨#[]⟩, .string ⟨#[97]⟩, .slice aA 1 ac, .slice kA 1 kc] 28 (0, 0))
    have HS := Lib.hid (same_tree (ht8.below hb9) ((HT7.out.below hb8).below hb9))
    have HB9 := Lib.hid ((HB7.out.trans (hb8.mono HB7.out.size)).trans (hb9.mono (HB7.out.trans (hb8.mono HB7.out.size)).size))
    have hc9 := (hb9.block _ (xlt ((hb8.block _ (xlt HC7.out)).trans HC7.out))).trans ((hb8.block _ (xlt HC7.out)).trans HC7.out)
    have x0 := xat hc9 0
    have x1 := xat hc9 1
    have x2 := xat hc9 2
    have x3 := xat hc9 3
    have x4 := xat hc9 4
    simp only [List.getElem?_toArray, List.getElem?_cons_zero, List.getElem?_cons_succ] at x0 x1 x2 x3 x4
    simp only [NodeT.text, NodeT.space, NodeT.name, NodeT.attrs, NodeT.kids, List.length_cons, List.length_nil]
    clear hb8 hb9 ht8 HT7 HC7 hc9 HPa HPf HFL
    go_wp2_with fail
    refine HS.out.mono ?_
    rintro e w10 ⟨rfl, hb10⟩
    go_wp2
    rw [HEE.out]
    exact ⟨rfl, HB9.out.trans (hb10.mono HB9.out.size)⟩
end Go.Proofs.YtkmpilnjhlnmfaaGreatDoor

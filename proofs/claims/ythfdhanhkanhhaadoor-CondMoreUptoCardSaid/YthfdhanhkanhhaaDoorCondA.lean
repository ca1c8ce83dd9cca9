/-
  The walks of cond.holds and of slices.Contains, Index, Equal at strings. Conditions stand at each.
-/
import Derived.Test.YthfdhanhkanhhaaDoorCondMem
import Derived.Deep.LoopGhost
import Derived.Deep.QuietTactic
import Derived.BigQuiet
namespace Go.Proofs.YthfdhanhkanhhaaDoor
open Go.RowKit

def findI : List (List UInt8) → List UInt8 → Nat → Int
  | [], _, _ => -1
  | y :: r, x, k => if x = y then k else findI r x (k + 1)
theorem findI_bd (x : List UInt8) : ∀ (l : List (List UInt8)) (k : Nat), (findI l x k = -1 ∧ x ∉ l) ∨ (0 ≤ findI l x k ∧ x ∈ l)
  | [], _ => .inl ⟨rfl, by simp⟩
  | y :: r, k => by
    unfold findI
    by_cases h : x = y
    · exact .inr ⟨by rw [if_pos h]; omega, by simp [h]⟩
    · rw [if_neg h]
      rcases findI_bd x r (k + 1) with ⟨h1, h2⟩ | ⟨h1, h2⟩
      · exact .inl ⟨h1, by simp [h, h2]⟩
      · exact .inr ⟨h1, by simp [h2]⟩
set_option maxHeartbeats 400000 in
set_option maxRecDepth 100000 in
set_option linter.unusedSimpArgs false in
theorem sindex_any (v : Value) (l : List (List UInt8)) (x : List UInt8) (w : World) (hv : Strs w v l) :
    Calls Tryd.prog 63 #[v, .string ⟨x.toArray⟩] w (Same0 (.int .i64 (findI l x 0)) w) := by
  obtain ⟨A, cap, rfl, hcap, hcm, hc⟩ := hv
  have HC := Lib.hid hc
  clear hc
  unfold maxLen at hcm
  obtain ⟨ANS, hA⟩ : ∃ A, findI l x 0 = A := ⟨_, rfl⟩
  rw [hA]
  go_enter Tryd.func63, Tryd.ntmps63
  go_wp2
  go_loop [8] (fun i => ∃ k : Nat, k ≤ l.length ∧ i = .int .i64 k ∧ Hid (findI (l.drop k) x k = ANS)) (fun i => l.length - (intOf i).toNat)
  case atStart => exact ⟨0, Nat.zero_le _, rfl, hA⟩
  case round =>
    obtain ⟨k, hk, rfl, H⟩ := hrel
    clear hA
    rcases hd : l.drop k with _ | ⟨y, r⟩
    · have hk2 : k = l.length := by have := drop_nil hd; omega
      rw [hd] at H
      subst hk2
      clear hd
      obtain rfl : -1 = ANS := H.out
      go_wp2
      go_ret
      exact ⟨rfl, rfl⟩
    · obtain ⟨hlt, hx, hr⟩ := drop_consA hd
      obtain ⟨b, o, rfl, hb, hcell⟩ := HC.out k y hx
      rw [hd] at H
      have Hr := Lib.hid hr
      clear hd hr hx
      by_cases he : x = y
      · subst he
        have H2 : (k : Int) = ANS := by have := H.out; unfold findI at this; rw [if_pos rfl] at this; exact this
        subst H2
        go_wp2
        go_ret
        exact ⟨rfl, rfl⟩
      · have H2 := Lib.hid (show findI r x (k + 1) = ANS by have := H.out; unfold findI at this; rw [if_neg he] at this; exact this)
        have hne : (x == y) = false := by simpa using he
        clear H he
        go_wp2
        go_round
        case rel => exact ⟨k + 1, by omega, by go_num, by rw [Hr.out]; exact H2.out⟩
        case measure => simp [intOf]; omega
set_option maxHeartbeats 400000 in
set_option maxRecDepth 100000 in
set_option linter.unusedSimpArgs false in
theorem scontains_any (v : Value) (l : List (List UInt8)) (x : List UInt8) (w : World) (hv : Strs w v l) :
    Calls Tryd.prog 43 #[v, .string ⟨x.toArray⟩] w (Same0 (.bool (decide (x ∈ l))) w) := by
  have HV := Lib.hid hv
  clear hv
  have hb := findI_bd x l 0
  generalize hf : findI l x 0 = f at hb
  have HF := Lib.hid hf
  clear hf
  generalize hd : decide (x ∈ l) = d
  have hb2 : (f = -1 ∧ d = false) ∨ (0 ≤ f ∧ d = true) := by rw [← hd]; simpa using hb
  clear hb hd
  go_enter Tryd.func43, Tryd.ntmps43
  go_wp2_with (refine (sindex_any _ _ _ _ HV.out).mono ?_; rw [HF.out]; rintro e w1 ⟨rfl, rfl⟩)
  go_ret
  refine ⟨retb ?_, rfl⟩
  rcases hb2 with ⟨rfl, rfl⟩ | ⟨h1, rfl⟩
  · rfl
  · simpa using h1
set_option maxHeartbeats 400000 in
set_option maxRecDepth 100000 in
set_option linter.unusedSimpArgs false in
theorem sequal_any (va vb : Value) (a b : List (List UInt8)) (w : World) (ha : Strs w va a) (hb : Strs w vb b) :
    Calls Tryd.prog 61 #[va, vb] w (Ret (.bool (decide (a = b))) w) := by
  have Ha := Lib.hid ha
  have Hb := Lib.hid hb
  obtain ⟨pa, ca, rfl, hcapa, hcma, -⟩ := ha
  obtain ⟨pb, cb, rfl, hcapb, hcmb, -⟩ := hb
  unfold maxLen at hcma hcmb
  obtain ⟨ANS, hA⟩ : ∃ A, decide (a = b) = A := ⟨_, rfl⟩
  rw [hA]
  by_cases hl : a.length = b.length
  · have hlz : ((a.length : Int) == (b.length : Int)) = true := by simp [hl]
    go_enter Tryd.func61, Tryd.ntmps61
    go_wp2
    go_loopw [13] (fun i wr => ∃ k : Nat, k ≤ a.length ∧ i = .int .i64 k ∧ Hid (decide (a.drop k = b.drop k) = ANS) ∧ Below w.heap.size w wr) (fun i _ => a.length - (intOf i).toNat)
    case atStart => exact ⟨0, Nat.zero_le _, rfl, hA, Below.refl _ _⟩
    case round =>
      obtain ⟨k, hk, rfl, H, hbw⟩ := hrel
      obtain ⟨pa', ca', hva, _, _, hac⟩ := Ha.out.below hbw (Nat.le_refl _)
      obtain ⟨pb', cb', hvb, _, _, hbc⟩ := Hb.out.below hbw (Nat.le_refl _)
      injection hva with e1 e2 e3
      injection hvb with f1 f2 f3
      subst e1 e3 f1 f3
      clear e2 f2
      clear hA
      rcases hd : a.drop k with _ | ⟨y, r⟩
      · have hk2 : k = a.length := by have := drop_nil hd; omega
        have hd2 : b.drop k = [] := List.drop_eq_nil_of_le (by omega)
        rw [hd, hd2] at H
        subst hk2
        clear hd hd2 hac hbc
        obtain rfl : true = ANS := by simpa using H.out
        go_wp2
        go_ret
        exact ⟨rfl, hbw⟩
      · obtain ⟨hlt, hx, hr⟩ := drop_consA hd
        rcases hd2 : b.drop k with _ | ⟨z, r2⟩
        · have := drop_nil hd2; omega
        obtain ⟨hlt2, hx2, hr2⟩ := drop_consA hd2
        obtain ⟨b1, o1, rfl, hb1, hcell1⟩ := hac k y hx
        obtain ⟨b2, o2, rfl, hb2, hcell2⟩ := hbc k z hx2
        rw [hd, hd2] at H
        have Hr := Lib.hid hr
        have Hr2 := Lib.hid hr2
        clear hd hr hx hd2 hr2 hx2 hac hbc
        by_cases he : y = z
        · subst he
          have H2 := Lib.hid (show decide (r = r2) = ANS by have := H.out; simpa using this)
          clear H
          go_wp2
          go_quiet (fail)
          go_wp2
          go_roundw
          case rel => exact ⟨k + 1, by omega, by go_num, by rw [Hr.out, Hr2.out]; exact H2.out, below_draws hbw _⟩
          case measure => simp [intOf]; omega
        · have H2 : false = ANS := by have := H.out; simpa [he] using this
          subst H2
          have hne : (!(y == z)) = true := by simpa using he
          clear H he
          go_wp2
          go_quiet (fail)
          go_wp2
          go_ret
          exact ⟨rfl, below_draws hbw _⟩
  · have hlz : ((a.length : Int) == (b.length : Int)) = false := by simp; omega
    have H2 : false = ANS := by rw [← hA, eq_comm, decide_eq_false_iff_not]; rintro rfl; exact hl rfl
    subst H2
    go_enter Tryd.func61, Tryd.ntmps61
    go_wp2
    go_ret
    exact ⟨rfl, Below.refl _ _⟩

theorem strs_ne {w : World} {v : Value} {l : List (List UInt8)} (h : Strs w v l) : ∃ A cap, v = .slice A l.length cap := by
  obtain ⟨A, cap, h, _⟩ := h
  exact ⟨A, cap, h⟩
theorem isC_tok (f : FactT) (c : CondT) (h : c.tok ≠ []) : isC f c = decide (c.tok ∈ f.toks) := by unfold isC; rw [if_neg h]
theorem isC_tag (f : FactT) (c : CondT) (h : c.tok = []) : isC f c = (!decide (f.etag = []) && decide (c.etag = f.etag)) := by unfold isC; rw [if_pos h]

set_option maxHeartbeats 1000000 in
set_option maxRecDepth 100000 in
set_option linter.unusedSimpArgs false in
theorem cholds_any (tg : Bool) (tag : List UInt8) (cv pv tv : Value) (cs : List CondT) (f : FactT) (w : World) (hc : Conds w cv cs) (ht : Strs w tv f.toks) :
    Calls Tryd.prog 40 #[.agg #[.bool tg, .string ⟨tag.toArray⟩, cv], .agg #[pv, .string ⟨f.etag.toArray⟩, tv]] w (Ret (.bool (holdsG cs f)) w) := by
  have HC := Lib.hid hc
  have HT := Lib.hid ht
  obtain ⟨A, cap, rfl, hcap, hcm, -⟩ := hc
  unfold maxLen at hcm
  clear ht
  obtain ⟨ANS, hA⟩ : ∃ A, holdsG cs f = A := ⟨_, rfl⟩
  rw [hA]
  go_enter Tryd.func40, Tryd.ntmps40
  go_wp2
  have hb0 : Below w.heap.size w ((w.alloc (.cells #[.bool tg, .string ⟨tag.toArray⟩, .slice A cs.length cap] 46)).alloc (.cells #[pv, .string ⟨f.etag.toArray⟩, tv] 43)) := ((Below.refl _ w).alloc (Nat.le_refl _) _).alloc (by simp) _
  have hcell := cell_new1 w (.cells #[.bool tg, .string ⟨tag.toArray⟩, .slice A cs.length cap] 46) #[pv, .string ⟨f.etag.toArray⟩, tv] 43
  generalize ((w.alloc (.cells #[.bool tg, .string ⟨tag.toArray⟩, .slice A cs.length cap] 46)).alloc (.cells #[pv, .string ⟨f.etag.toArray⟩, tv] 43)) = wb at hb0 hcell
  have HCb := Lib.hid (HC.out.below hb0 (Nat.le_refl _))
  have HTb := Lib.hid (HT.out.below hb0 (Nat.le_refl _))
  have c0 := hcell 0
  have c1 := hcell 1
  have c2 := hcell 2
  have hsz : w.heap.size + 1 < wb.heap.size := World.block_lt_of_cell? wb _ c0
  clear hcell
  go_loopw [11] (fun i wr => ∃ k : Nat, k ≤ cs.length ∧ i = .int .i64 k ∧ Hid (holdsG (cs.drop k) f = ANS) ∧ Below wb.heap.size wb wr) (fun i _ => cs.length - (intOf i).toNat)
  case atStart => exact ⟨0, Nat.zero_le _, rfl, hA, Below.refl _ _⟩
  case round =>
    obtain ⟨k, hk, rfl, H, hbw⟩ := hrel
    clear hA
    obtain ⟨A', cap', hva, _, _, hac⟩ := (HCb.out.below hbw (Nat.le_refl _)).at
    injection hva with e1 e2 e3
    subst e1 e3
    clear e2
    have Tr := Lib.hid (HTb.out.below hbw (Nat.le_refl _))
    have d0 := (hbw.cell (p := ⟨w.heap.size + 1, 0, none⟩) hsz).trans c0
    have d1 := (hbw.cell (p := ⟨w.heap.size + 1, 1, none⟩) hsz).trans c1
    have d2 := (hbw.cell (p := ⟨w.heap.size + 1, 2, none⟩) hsz).trans c2
    simp at d0 d1 d2
    clear c0 c1 c2
    rcases hd : cs.drop k with _ | ⟨x, r⟩
    · have hk2 : k = cs.length := by have := drop_nil hd; omega
      rw [hd] at H
      subst hk2
      clear hd hac
      obtain rfl : true = ANS := H.out
      go_wp2
      go_ret
      exact ⟨rfl, hb0.trans (hbw.mono (by omega))⟩
    · obtain ⟨hlt, hx, hr⟩ := drop_consA hd
      obtain ⟨b, o, rfl, hb, e0, e1, e2⟩ := hac k x hx
      rw [hd, holdsG_cons] at H
      have Hr := Lib.hid hr
      clear hd hr hx hac
      unfold str at e1 e2
      obtain ⟨neg, tok, etag⟩ := x
      simp only at e0 e1 e2
      have hbn : wr.heap.size ≠ w.heap.size + 1 := by have := hbw.size; omega
      have f1 := cell_alloc d1 (.cells #[.bool neg, .string ⟨tok.toArray⟩, .string ⟨etag.toArray⟩] 48)
      have f2 := cell_alloc d2 (.cells #[.bool neg, .string ⟨tok.toArray⟩, .string ⟨etag.toArray⟩] 48)
      have Ta := Lib.hid (Tr.out.alloc (.cells #[.bool neg, .string ⟨tok.toArray⟩, .string ⟨etag.toArray⟩] 48))
      have hba : Below wb.heap.size wb (wr.alloc (.cells #[.bool neg, .string ⟨tok.toArray⟩, .string ⟨etag.toArray⟩] 48)) := hbw.alloc hbw.size _
      have HO : ∀ q1 q2 q3 q4, tok.isEmpty = q1 → f.etag.isEmpty = q2 → (etag == f.etag) = q3 → decide (tok ∈ f.toks) = q4 → okC f ⟨neg, tok, etag⟩ = ((if q1 = true then !q2 && q3 else q4) != neg) := by
        rintro _ _ _ _ rfl rfl rfl rfl
        have b1 : tok.isEmpty = decide (tok = []) := by cases tok <;> rfl
        have b2 : f.etag.isEmpty = decide (f.etag = []) := by cases f.etag <;> rfl
        have b3 : (etag == f.etag) = decide (etag = f.etag) := by rw [Bool.eq_iff_iff]; simp
        rw [b1, b2, b3]
        unfold okC isC
        by_cases h1 : tok = [] <;> simp [h1]
      generalize okC f ⟨neg, tok, etag⟩ = ok at HO H
      generalize hct : decide (tok ∈ f.toks) = ct at HO
      have HCt := Lib.hid hct
      clear hct
      cases q1 : tok.isEmpty
      · cases neg <;> cases ct <;> cases q2 : f.etag.isEmpty <;> cases q3 : (etag == f.etag) <;> have ho := HO _ _ _ _ q1 q2 q3 rfl <;> simp at ho <;> subst ho <;> clear HO
        all_goals first
          | (obtain rfl : false = ANS := H.out
             go_wp2_with (refine (scontains_any _ _ _ _ Ta.out).mono ?_; rw [HCt.out]; rintro e w1 ⟨rfl, rfl⟩)
             go_ret; exact ⟨rfl, hb0.trans (hba.mono (by omega))⟩)
          | (have H' := Lib.hid (show holdsG r f = ANS from H.out)
             go_wp2_with (refine (scontains_any _ _ _ _ Ta.out).mono ?_; rw [HCt.out]; rintro e w1 ⟨rfl, rfl⟩)
             go_roundw
             case rel => exact ⟨k + 1, by omega, by go_num, by rw [Hr.out]; exact H'.out, hba⟩
             case measure => simp [intOf]; omega)
      · cases neg <;> cases q2 : f.etag.isEmpty <;> cases q3 : (etag == f.etag) <;> have ho := HO _ _ _ _ q1 q2 q3 rfl <;> simp at ho <;> subst ho <;> clear HO
        all_goals first
          | (obtain rfl : false = ANS := H.out
             go_wp2
             go_ret; exact ⟨rfl, hb0.trans (hba.mono (by omega))⟩)
          | (have H' := Lib.hid (show holdsG r f = ANS from H.out)
             go_wp2
             go_roundw
             case rel => exact ⟨k + 1, by omega, by go_num, by rw [Hr.out]; exact H'.out, hba⟩
             case measure => simp [intOf]; omega)
end Go.Proofs.YthfdhanhkanhhaaDoor

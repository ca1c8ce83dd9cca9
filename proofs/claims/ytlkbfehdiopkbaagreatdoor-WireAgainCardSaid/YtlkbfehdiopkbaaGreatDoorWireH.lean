/-
  The walk of wire's body. Conditions: the reader and the request lie in blocks of their own; the bytes are fewer than a hundred million; what the listed variables hold.
-/
import Derived.Test.YtlkbfehdiopkbaaGreatDoorWireG
namespace Go.Proofs.YtlkbfehdiopkbaaGreatDoor
set_option linter.unusedVariables false
set_option linter.unusedSimpArgs false
open Go.RowKit

section
open Go.Lib
theorem parse_fwd18 : ∀ (l : List UInt8) (a : Nat), (∀ b ∈ l, 48 ≤ b.toNat ∧ b.toNat ≤ 57) → fwd a l < 1000000000000000000 → parseUint10 a l = .ok (fwd a l)
  | [], _, _, _ => rfl
  | c :: l, a, hd, hb => by
    have hc := hd c (by simp)
    have h1 : fwd (a * 10 + (c.toNat - 48)) l < 1000000000000000000 := hb
    have h2 := fwd_ge l (a * 10 + (c.toNat - 48))
    simp only [parseUint10]
    rw [if_pos hc, if_neg (by omega), if_neg (by omega), parse_fwd18 l _ (fun b hb => hd b (by simp [hb])) h1]
    rfl
theorem fwd_lt : ∀ (l : List UInt8) (a : Nat), (∀ b ∈ l, 48 ≤ b.toNat ∧ b.toNat ≤ 57) → fwd a l < (a + 1) * 10 ^ l.length
  | [], a, _ => by simp [fwd]
  | c :: l, a, h => by
    have hc := h c (by simp)
    have ih := fwd_lt l (a * 10 + (c.toNat - 48)) (fun b hb => h b (by simp [hb]))
    have e : (a + 1) * 10 ^ (c :: l).length = ((a + 1) * 10) * 10 ^ l.length := by rw [List.length_cons, Nat.pow_succ, Nat.mul_comm (10 ^ l.length), Nat.mul_assoc]
    rw [e]
    show fwd (a * 10 + (c.toNat - 48)) l < _
    exact Nat.lt_of_lt_of_le ih (Nat.mul_le_mul_right _ (by omega))
theorem fwd_val : ∀ l : List UInt8, fwd 0 l.reverse = valR l
  | [] => rfl
  | c :: l => by
    have ih := fwd_val l
    rw [List.reverse_cons]
    unfold fwd at ih ⊢
    rw [List.foldl_append, ih]
    show valR l * 10 + (c.toNat - 48) = (c.toNat - 48) + 10 * valR l
    omega
theorem fwd_num (l : List UInt8) : fwd 0 l = numS l := by
  have := fwd_val l.reverse
  rwa [List.reverse_reverse] at this
theorem atoi_18 {l : List UInt8} (hne : l ≠ []) (h : l.all digC = true) (hl : l.length ≤ 18) : atoiAll l = .ok (numS l) ∧ numS l < 1000000000000000000 := by
  have hd : ∀ b ∈ l, 48 ≤ b.toNat ∧ b.toNat ≤ 57 := fun b hb => of_decide_eq_true (List.all_eq_true.1 h b hb)
  have hb := fwd_lt l 0 hd
  have hp : 10 ^ l.length ≤ 10 ^ 18 := Nat.pow_le_pow_right (by omega) hl
  have hlt : fwd 0 l < 1000000000000000000 := by omega
  have hpr := parse_fwd18 l 0 hd hlt
  rw [fwd_num] at hpr hlt
  refine ⟨?_, hlt⟩
  cases l with
  | nil => exact absurd rfl hne
  | cons c r =>
    have hcc := hd c (by simp)
    unfold atoiAll
    simp only
    rw [if_neg (by omega)]
    unfold parseMag
    rw [if_neg (by simp), hpr]
    simp only
    rw [if_neg (by omega), if_neg (by omega), if_neg (by omega)]
end
theorem stS_18 {l : List UInt8} (hne : l ≠ []) (h : l.all digC = true) (hl : l.length ≤ 18) : stS l = numS l := by
  unfold stS
  rw [(atoi_18 hne h hl).1]
theorem vals_len (hs : List HdrT) (name : List UInt8) (hn : hs.length ≤ 1000) : (vals hs name).length ≤ 1000 := by
  unfold vals
  rw [List.length_map]
  exact Nat.le_trans (List.length_filter_le _ _) hn
theorem body_e1 {hs : List HdrT} {s : List UInt8} (h : (vals hs wHost).length ≠ 1 ∨ (vals hs wCoding ≠ [] ∧ vals hs wLength ≠ [])) : bodyS hs s = .error 400 := by
  unfold bodyS
  rw [if_pos h]
theorem body_2 {hs : List HdrT} {s c1 c2 : List UInt8} {cs : List (List UInt8)} (h : ¬ ((vals hs wHost).length ≠ 1 ∨ (vals hs wCoding ≠ [] ∧ vals hs wLength ≠ []))) (hc : vals hs wCoding = c1 :: c2 :: cs) : bodyS hs s = .error 501 := by
  unfold bodyS
  rw [if_neg h, hc]
theorem body_1 {hs : List HdrT} {s c : List UInt8} (h : ¬ ((vals hs wHost).length ≠ 1 ∨ (vals hs wCoding ≠ [] ∧ vals hs wLength ≠ []))) (hc : vals hs wCoding = [c]) : bodyS hs s = if lowS c = wChunked then chunksS 8193 [] s else .error 501 := by
  unfold bodyS
  rw [if_neg h, hc]
theorem body_00 {hs : List HdrT} {s : List UInt8} (h : ¬ ((vals hs wHost).length ≠ 1 ∨ (vals hs wCoding ≠ [] ∧ vals hs wLength ≠ []))) (hc : vals hs wCoding = []) (hl : vals hs wLength = []) : bodyS hs s = .ok ([], s) := by
  unfold bodyS
  rw [if_neg h, hc, hl]
theorem body_01 {hs : List HdrT} {s v : List UInt8} (h : ¬ ((vals hs wHost).length ≠ 1 ∨ (vals hs wCoding ≠ [] ∧ vals hs wLength ≠ []))) (hc : vals hs wCoding = []) (hl : vals hs wLength = [v]) : bodyS hs s = if v = [] ∨ 18 < v.length ∨ v.all digC = false then .error 400 else if 8192 < numS v then .error 413 else takeS (numS v) s := by
  unfold bodyS
  rw [if_neg h, hc, hl]
theorem body_02 {hs : List HdrT} {s v1 v2 : List UInt8} {vs : List (List UInt8)} (h : ¬ ((vals hs wHost).length ≠ 1 ∨ (vals hs wCoding ≠ [] ∧ vals hs wLength ≠ []))) (hc : vals hs wCoding = []) (hl : vals hs wLength = v1 :: v2 :: vs) : bodyS hs s = .error 400 := by
  unfold bodyS
  rw [if_neg h, hc, hl]
set_option maxHeartbeats 8000000 in
set_option maxRecDepth 100000 in
set_option linter.unusedSimpArgs false in
theorem body_any (rb qb : Nat) (buf s : List UInt8) (hs : List HdrT) (mv tv hv cv : Value) (w : World) (h : WR w rb buf s) (hq : w.heap[qb]? = some (.cells #[mv, tv, hv, .string ⟨#[]⟩, cv] 26 (0, 0))) (hne : rb ≠ qb) (hb : buf.length ≤ 9223372036854775807)
    (hh : Hdrs w hv hs) (hn : hs.length ≤ 1000) (hvl : ∀ name, ∀ v ∈ vals hs name, v.length ≤ 100000000) (hE : ∀ w', Two rb qb w w' → Env w') :
    Calls Tryz.prog 33 #[.pointer (some ⟨rb, 0, none⟩), .pointer (some ⟨qb, 0, none⟩)] w (BodyP rb qb buf (bodyS hs s) mv tv hv cv w) := by
  have hql : qb < w.heap.size := (Array.getElem?_eq_some_iff.1 hq).1
  have hrl : rb < w.heap.size := h.lt
  have HVl := Lib.hid (fun w1 (hw : Below w.heap.size w w1) name => values_any qb hs hv name w1 ((hw.cell (p := ⟨qb, 2, none⟩) hql).trans (wat hq 2)) (hh.below hw (Nat.le_refl _)) hn)
  have HQ := Lib.hid (fun w1 (hw : Below w.heap.size w w1) => (hw.block qb hql).trans hq)
  have HW := Lib.hid (fun w1 (hw : Below w.heap.size w w1) => h.below hw)
  have HE := Lib.hid (fun w1 (hw : Below w.heap.size w w1) => hE w1 (Two.below hw))
  have HF := Lib.hid fail_any
  have HTk := Lib.hid (fun w1 s n (h : WR w1 rb buf s) (hn : n ≤ 100000000) => take_any rb buf s w1 h hb n hn)
  have HCh := Lib.hid (fun w1 (h : WR w1 rb buf s) hq => chunks_any rb qb buf s mv tv hv (.string ⟨#[]⟩) cv w1 h hq hne hb)
  have HB0 := Lib.hid (Below.refl w.heap.size w)
  have HE1 := Lib.hid (@body_e1 hs s)
  have HE2 := Lib.hid (fun c1 c2 cs => @body_2 hs s c1 c2 cs)
  have HE3 := Lib.hid (fun c => @body_1 hs s c)
  have HE4 := Lib.hid (@body_00 hs s)
  have HE5 := Lib.hid (fun v => @body_01 hs s v)
  have HE6 := Lib.hid (fun v1 v2 vs => @body_02 hs s v1 v2 vs)
  have HLc := Lib.hid (hvl wCoding)
  have HLl := Lib.hid (hvl wLength)
  have HLn := Lib.hid (vals_len hs wLength hn)
  have HLm := Lib.hid (vals_len hs wCoding hn)
  have V1 := Lib.hid (HVl.out w HB0.out wLength)
  have V2 := Lib.hid (fun w1 hw => HVl.out w1 hw wCoding)
  have V3 := Lib.hid (fun w1 hw => HVl.out w1 hw wHost)
  generalize bodyS hs s = ANS at *
  generalize vals hs wLength = LL at *
  generalize vals hs wCoding = LC at *
  generalize vals hs wHost = LH at *
  unfold wLength at V1
  unfold wCoding at V2
  unfold wHost at V3
  clear h hq hh hvl hE HVl
  go_enter Tryz.func33, Tryz.ntmps33
  go_wp2_with fail
  refine V1.out.mono ?_
  rintro e w1 ⟨A1, k1, rfl, hv1, hb1⟩
  go_wp2_with fail
  refine (V2.out w1 hb1).mono ?_
  rintro e w2 ⟨A2, k2, rfl, hv2, hb2⟩
  have hbb2 := hb1.trans (hb2.mono hb1.size)
  have HS1 := Lib.hid (hv1.below hb2 (Nat.le_refl _))
  have HS2 := Lib.hid hv2
  clear hv1 hv2 hb2 hb1 V1 V2
  go_wp2_with fail
  refine (V3.out w2 hbb2).mono ?_
  rintro e w3 ⟨A3, k3, rfl, -, hb3⟩
  have hbb3 := hbb2.trans (hb3.mono hbb2.size)
  have HT1 := Lib.hid (HS1.out.below hb3 (Nat.le_refl _))
  have HT2 := Lib.hid (HS2.out.below hb3 (Nat.le_refl _))
  have HBB := Lib.hid hbb3
  have HTw := Lib.hid (Two.below (b := rb) (q := qb) hbb3)
  clear HS1 HS2 hb3 hbb2 V3
  by_cases h1 : LH.length = 1
  case neg =>
    have HX := Lib.hid (HE1.out (.inl h1))
    have h1' : ((LH.length : Int) != 1) = true := bne_iff_ne.2 (by omega)
    clear HE1 HE2 HE3 HE4 HE5 HE6 h1
    go_wp2_with (go_at_call 54; refine (HF.out _ _).mono ?_; rintro e w4 ⟨rfl, rfl⟩)
    exact ⟨rfl, bodyP_no HX.out HTw.out⟩
  have h1' : ((LH.length : Int) != 1) = false := by rw [h1]; rfl
  rcases LC with _ | ⟨c, _ | ⟨c2, cs⟩⟩
  · have hno : ¬ (LH.length ≠ 1 ∨ (([] : List (List UInt8)) ≠ [] ∧ LL ≠ [])) := fun h => h.elim (fun e => e h1) (fun e => e.1 rfl)
    have HN := Lib.hid hno
    clear hno
    rcases LL with _ | ⟨v, _ | ⟨v2, vs⟩⟩
    · have HX := Lib.hid (HE4.out HN.out rfl rfl)
      clear HE1 HE2 HE3 HE4 HE5 HE6 h1 HN
      go_wp2
      go_end0
      exact bodyP_ok HX.out HTw.out (HW.out w3 HBB.out) (HQ.out w3 HBB.out)
    · have HX := Lib.hid (HE5.out v HN.out rfl rfl)
      obtain ⟨_, _, hva, -, -, hac⟩ := HT1.out
      injection hva with e1 e2 e3
      subst e1
      obtain ⟨b, o, rfl, hbl, c0⟩ := hac 0 v rfl
      rw [Nat.add_zero] at c0
      have hvl := HLl.out v (by simp)
      have HAl := Lib.hid (fun w => wall_digits v w (by omega))
      clear HE1 HE2 HE3 HE4 HE5 HE6 h1 HN hac hbl e2 e3 HT1
      rcases v with _ | ⟨v0, v1⟩
      · have HX2 := Lib.hid (show ANS = .error 400 from HX.out.trans (if_pos (.inl rfl)))
        clear HX HAl
        go_wp2_with (go_at_call 54; refine (HF.out _ _).mono ?_; rintro e w4 ⟨rfl, rfl⟩)
        exact ⟨rfl, bodyP_no HX2.out HTw.out⟩
      have hem : (v0 :: v1).isEmpty = false := rfl
      have hvn : v0 :: v1 ≠ [] := by simp
      generalize v0 :: v1 = v at *
      by_cases h18 : 18 < v.length
      · have HX2 := Lib.hid (show ANS = .error 400 from HX.out.trans (if_pos (.inr (.inl h18))))
        have h18' : (18 : Int) < v.length := by omega
        clear HX HAl hvn h18
        go_wp2_with (go_at_call 54; refine (HF.out _ _).mono ?_; rintro e w4 ⟨rfl, rfl⟩)
        exact ⟨rfl, bodyP_no HX2.out HTw.out⟩
      have h18' : ¬ (18 : Int) < v.length := by omega
      cases hdg : v.all digC
      · have HX2 := Lib.hid (show ANS = .error 400 from HX.out.trans (if_pos (.inr (.inr hdg))))
        rw [hdg] at HAl
        clear HX hvn h18 hdg
        go_wp2_with (first | (go_at_call 52; refine (HAl.out _).mono ?_; rintro e w4 ⟨rfl, rfl⟩) | (go_at_call 54; refine (HF.out _ _).mono ?_; rintro e w4 ⟨rfl, rfl⟩))
        exact ⟨rfl, bodyP_no HX2.out HTw.out⟩
      rw [hdg] at HAl
      have HX1 := Lib.hid (show ANS = if 8192 < numS v then .error 413 else takeS (numS v) s from HX.out.trans (if_neg (fun h => h.elim hvn (fun h => h.elim h18 (fun h => by rw [hdg] at h; cases h)))))
      have hst := stS_18 hvn hdg (by omega)
      have hbd := (atoi_18 hvn hdg (by omega)).2
      have HAt := Lib.hid (atoi_any v w3 (by omega) (HE.out w3 HBB.out))
      unfold AtoiP at HAt
      rw [hst] at HAt
      generalize numS v = n at *
      clear HX hvn h18 hdg hst
      go_wp2_with (go_at_call 52; refine (HAl.out _).mono ?_; rintro e w4 ⟨rfl, rfl⟩)
      refine HAt.out.mono ?_
      rintro e w4 ⟨ev, rfl, -, hb4⟩
      have hbb4 := HBB.out.trans (hb4.mono HBB.out.size)
      have HB4 := Lib.hid hbb4
      have HT4 := Lib.hid (Two.below (b := rb) (q := qb) hbb4)
      clear HAt hb4 hbb4 c0 HAl
      by_cases hbig : 8192 < n
      · have HX2 := Lib.hid (HX1.out.trans (if_pos hbig))
        have hbz : (8192 : Int) < n := by omega
        clear HX1 hbig
        go_wp2_with (go_at_call 54; refine (HF.out _ _).mono ?_; rintro e w4 ⟨rfl, rfl⟩)
        exact ⟨rfl, bodyP_no HX2.out HT4.out⟩
      have HX2 := Lib.hid (HX1.out.trans (if_neg hbig))
      have hbz : ¬ (8192 : Int) < n := by omega
      have HTn := Lib.hid (HTk.out w4 s n (HW.out w4 HB4.out) (by omega))
      clear HX1 hbig
      go_wp2_with fail
      refine HTn.out.mono ?_
      rintro e w5 ⟨hg5, hx⟩
      rcases hT : takeS n s with st | ⟨d, r⟩
      · rw [hT] at hx HX2
        obtain rfl := hx
        exact ⟨rfl, bodyP_no HX2.out (HT4.out.grow hg5 (.inr (.inl rfl)))⟩
      rw [hT] at hx HX2
      obtain ⟨rfl, hwr5⟩ := hx
      have hq5 := (hg5.block qb (Nat.lt_of_lt_of_le hql HT4.out.size) (fun e => by injection e with e; exact hne e.symm)).trans (HQ.out w4 HB4.out)
      have c3 := wat hq5 3
      have f3 := wfree hq5 3
      replace c3 : w5.cell? ⟨qb, 3, none⟩ = some (.string ⟨#[]⟩) := c3
      have HQ5 := Lib.hid hq5
      have HR5 := Lib.hid hwr5
      have HT5 := Lib.hid (HT4.out.grow (q := qb) hg5 (.inr (.inl rfl)))
      clear hq5 hwr5 hg5 HTn hT
      unfold str
      go_wp2
      go_end0
      exact bodyP_ok HX2.out (HT5.out.setq 3 _) (HR5.out.keep (grown_cell w5 qb 3 _) (fun e => by injection e with e; exact hne e)) (heap_setCell_same w5 qb 3 _ _ _ HQ5.out)
    · have HX := Lib.hid (HE6.out v v2 vs HN.out rfl rfl)
      obtain ⟨_, _, hva, -, -, hac⟩ := HT1.out
      injection hva with e1 e2 e3
      subst e1
      obtain ⟨b, o, rfl, hbl, c0⟩ := hac 0 v rfl
      rw [Nat.add_zero] at c0
      have hlen : ((v :: v2 :: vs).length : Int) = (vs.length : Int) + 1 + 1 := by simp
      have hvs : vs.length ≤ 1000000 := by have := HLn.out; simp at this; omega
      clear HE1 HE2 HE3 HE4 HE5 HE6 h1 HN hac hbl e2 e3 HT1
      go_wp2_with (go_at_call 54; refine (HF.out _ _).mono ?_; rintro e w4 ⟨rfl, rfl⟩)
      exact ⟨rfl, bodyP_no HX.out HTw.out⟩
  · rcases LL with _ | ⟨v, vs⟩
    · have hno : ¬ (LH.length ≠ 1 ∨ (([c] : List (List UInt8)) ≠ [] ∧ ([] : List (List UInt8)) ≠ [])) := fun h => h.elim (fun e => e h1) (fun e => e.2 rfl)
      have HX := Lib.hid (HE3.out c hno rfl)
      obtain ⟨_, _, hva, -, -, hac⟩ := HT2.out
      injection hva with e1 e2 e3
      subst e1
      obtain ⟨b, o, rfl, hbl, c0⟩ := hac 0 c rfl
      rw [Nat.add_zero] at c0
      have hvl := HLc.out c (by simp)
      have HLw := Lib.hid (fun w => wlower_any c w (by omega))
      have HX' := Lib.hid (show ANS = if lowS c = [99, 104, 117, 110, 107, 101, 100] then chunksS 8193 [] s else .error 501 from HX.out)
      generalize lowS c = lc at *
      clear HE1 HE2 HE3 HE4 HE5 HE6 h1 hno hac hbl e2 e3 HT2 HX
      by_cases hck : lc = [99, 104, 117, 110, 107, 101, 100]
      · have HX2 := Lib.hid (HX'.out.trans (if_pos hck))
        subst hck
        clear HX'
        go_wp2_with (go_at_call 60; refine (HLw.out _).mono ?_; rintro e w4 ⟨rfl, hb4⟩)
        have hbb4 := HBB.out.trans (hb4.mono HBB.out.size)
        refine (HCh.out w4 (HW.out w4 hbb4) (HQ.out w4 hbb4)).mono ?_
        rintro e w5 ⟨ht5, hx⟩
        have HT5 := Lib.hid ((Two.below (b := rb) (q := qb) hbb4).trans ht5)
        rcases hC : chunksS 8193 [] s with st | ⟨b5, r5⟩
        · rw [hC] at hx HX2
          obtain rfl := hx
          exact ⟨rfl, bodyP_no HX2.out HT5.out⟩
        rw [hC] at hx HX2
        obtain ⟨rfl, hwr5, hq5⟩ := hx
        have HR5 := Lib.hid hwr5
        have HQ5 := Lib.hid hq5
        clear hC hwr5 hq5 ht5 hbb4 hb4 HLw HCh c0
        go_wp2
        go_end0
        exact bodyP_ok HX2.out HT5.out HR5.out HQ5.out
      · have HX2 := Lib.hid (HX'.out.trans (if_neg hck))
        have hcb : (lc == [99, 104, 117, 110, 107, 101, 100]) = false := beq_eq_false_iff_ne.2 hck
        clear HX' hck
        go_wp2_with (first | (go_at_call 60; refine (HLw.out _).mono ?_; rintro e w4 ⟨rfl, hb4⟩) | (go_at_call 54; refine (HF.out _ _).mono ?_; rintro e w5 ⟨rfl, rfl⟩))
        exact ⟨rfl, bodyP_no HX2.out (Two.below (HBB.out.trans (hb4.mono HBB.out.size)))⟩
    · have HX := Lib.hid (HE1.out (.inr ⟨by simp, by simp⟩))
      have hvs : vs.length ≤ 1000000 := by have := HLn.out; simp at this; omega
      clear HE1 HE2 HE3 HE4 HE5 HE6 h1
      go_wp2_with (go_at_call 54; refine (HF.out _ _).mono ?_; rintro e w4 ⟨rfl, rfl⟩)
      exact ⟨rfl, bodyP_no HX.out HTw.out⟩
  · have hcs : cs.length ≤ 1000000 := by have := HLm.out; simp at this; omega
    rcases LL with _ | ⟨v, vs⟩
    · have hno : ¬ (LH.length ≠ 1 ∨ ((c :: c2 :: cs) ≠ [] ∧ ([] : List (List UInt8)) ≠ [])) := fun h => h.elim (fun e => e h1) (fun e => e.2 rfl)
      have HX := Lib.hid (HE2.out c c2 cs hno rfl)
      clear HE1 HE2 HE3 HE4 HE5 HE6 h1 hno
      go_wp2_with (go_at_call 54; refine (HF.out _ _).mono ?_; rintro e w4 ⟨rfl, rfl⟩)
      exact ⟨rfl, bodyP_no HX.out HTw.out⟩
    · have HX := Lib.hid (HE1.out (.inr ⟨by simp, by simp⟩))
      have hvs : vs.length ≤ 1000000 := by have := HLn.out; simp at this; omega
      clear HE1 HE2 HE3 HE4 HE5 HE6 h1
      go_wp2_with (go_at_call 54; refine (HF.out _ _).mono ?_; rintro e w4 ⟨rfl, rfl⟩)
      exact ⟨rfl, bodyP_no HX.out HTw.out⟩
end Go.Proofs.YtlkbfehdiopkbaaGreatDoor

/-
  The walks of wire's values and closes. Conditions: the headers are a thousand at the most; each value is shorter than a hundred million bytes; what the listed variables hold.
-/
import Derived.Test.YtlkbfehdiopkbaaGreatDoorWireC
import Derived.Test.YtlkbfehdiopkbaaGreatDoorRepM
namespace Go.Proofs.YtlkbfehdiopkbaaGreatDoor
set_option linter.unusedVariables false
set_option linter.unusedSimpArgs false
open Go.RowKit

theorem Own.shape {e : TypeId} {B : Nat} {xs : List Value} {v : Value} {w : World} (h : Own e B xs v w) : ∃ A cap, v = .slice A xs.length cap := by
  obtain ⟨A, cap, hv, _⟩ := h.rd
  exact ⟨A, cap, hv⟩
/-- append(s, a, ..): the elements lie in the block just made, whose number is told. -/
theorem wpList_appLitAt {P : Program} {t e : TypeId} {z : Value} {bytes : Nat} (E : Elem P t e z bytes) {ops : Array Oper} {rest : List Oper} {o : Oper} {a : Act} {Q : Exit → Act → World → Prop} {w : World} (hgd : o.guard = none) (s x : Operand)
    (ho : o.op = .call { callee := .builtin .append, args := #[s, x], argTypes := #[t, t] })
    (B : Nat) (xs : List Value) (arr : Array Value) (v : Value) (hs : a.eval s = v) (hown : Own e B xs v w) (m bk : Nat) (hbk : bk = w.heap.size) (hx : a.eval x = .slice (some ⟨bk, 0, none⟩) m m) (hm : arr.size = m) (h1 : ∀ u ∈ arr.toList, u.oneCell' = true)
    (hlen : (xs.length + m) * bytes ≤ 140737488355328) (hB : B ≤ w.heap.size)
    (h : ∀ v' w', Own e B (xs ++ arr.toList) v' w' → Below B w w' → w.grownBy w' v.ownBlock → wpList P ops Q rest (a.put o.dst v') w') : wpList P ops Q (o :: rest) a (w.alloc (.cells arr e)) := by
  subst hbk
  exact wpList_appLit E hgd s x ho B xs arr v hs hown m hx hm h1 hlen hB h
/-- a list of texts, handed back in a row that the call itself made. -/
def RetV (ls : List (List UInt8)) (w : World) (e : Ending) (w' : World) : Prop := ∃ A cap, e = .returned (.slice A ls.length cap) ∧ Strs w' (.slice A ls.length cap) ls ∧ Below w.heap.size w w'
theorem vals_cons (h : HdrT) (q : List HdrT) (name : List UInt8) : vals (h :: q) name = (if h.name = name then [h.value] else []) ++ vals q name := by
  unfold vals
  rw [List.filter_cons]
  by_cases e : h.name = name
  · simp [e]
  · simp [e]
set_option maxHeartbeats 2000000 in
set_option maxRecDepth 100000 in
set_option linter.unusedSimpArgs false in
theorem values_any (qb : Nat) (hs : List HdrT) (hv : Value) (name : List UInt8) (w : World) (hq : w.cell? ⟨qb, 2, none⟩ = some hv) (hh : Hdrs w hv hs) (hn : hs.length ≤ 1000) :
    Calls Tryz.prog 59 #[.pointer (some ⟨qb, 0, none⟩), .string ⟨name.toArray⟩] w (RetV (vals hs name) w) := by
  have HH := Lib.hid hh
  obtain ⟨A, cap, rfl, hcap, hcm, -⟩ := hh
  unfold maxLen at hcm
  obtain ⟨ANS, hA⟩ : ∃ A, vals hs name = A := ⟨_, rfl⟩
  rw [hA]
  go_enter Tryz.func59, Tryz.ntmps59
  go_wp2
  go_loopw [5, 13] (fun v i wr => ∃ (k : Nat) (acc : List (List UInt8)), k ≤ hs.length ∧ i = .int .i64 k ∧ Own 9 w.heap.size (vstrs acc) v wr ∧ Hid (acc ++ vals (hs.drop k) name = ANS) ∧ Below w.heap.size w wr ∧ acc.length ≤ k) (fun _ i _ => hs.length - (intOf i).toNat)
  case atStart => exact ⟨0, [], Nat.zero_le _, rfl, Own.nil _ _ _, hA, Below.refl _ _, Nat.zero_le _⟩
  case round =>
    obtain ⟨k, acc, hk, rfl, ho, HK, hbw, hle⟩ := hrel
    clear hA
    have HO := Lib.hid ho
    obtain ⟨oA, oc, hv⟩ := ho.shape
    rw [vstrs_len] at hv
    subst hv
    clear ho
    rcases hd : hs.drop k with _ | ⟨x, q⟩
    · have hk2 : k = hs.length := by have := drop_nil hd; omega
      rw [hd] at HK
      obtain rfl : acc = ANS := (List.append_nil acc).symm.trans HK.out
      clear hd HK
      subst hk2
      go_wp2
      go_ret
      exact ⟨oA, oc, rfl, strs_of_rd HO.out.rd, hbw⟩
    · obtain ⟨hlt, hx, hq'⟩ := drop_consA hd
      rw [hd, vals_cons, ← List.append_assoc] at HK
      have Hq := Lib.hid hq'
      obtain ⟨A', cap', hva, _, _, hac⟩ := (HH.out.below hbw (Nat.le_refl _)).at
      injection hva with e1 e2 e3
      subst e1 e3
      clear e2
      obtain ⟨b, o, rfl, hbl, c0, c1⟩ := hac k x hx
      have hki : (k : Int) < hs.length := by omega
      have hk0 : (0 : Int) ≤ (k : Int) := by omega
      obtain ⟨nm, vl⟩ := x
      simp only at c0 c1 HK
      clear hd hx hq' hac
      have HOa := Lib.hid (HO.out.alloc (.cells #[.string ⟨nm.toArray⟩, .string ⟨vl.toArray⟩] 38))
      have hba := hbw.alloc hbw.size (.cells #[.string ⟨nm.toArray⟩, .string ⟨vl.toArray⟩] 38)
      by_cases hnm : nm = name
      · have hnb : (nm == name) = true := by simp [hnm]
        rw [if_pos hnm] at HK
        have HBD := Lib.hid (show ((vstrs acc).length + 1) * 16 ≤ 140737488355328 by rw [vstrs_len]; omega)
        have hWB : w.heap.size ≤ (wr.alloc (.cells #[.string ⟨nm.toArray⟩, .string ⟨vl.toArray⟩] 38)).heap.size := hba.size
        clear hnm
        go_wp2_with (at_builtin; go_must (refine wpList_appLitAt elemS rfl (.tmp 21) (.tmp 24) rfl w.heap.size (vstrs acc) #[.string ⟨vl.toArray⟩] _ rfl HOa.out 1 (wr.heap.size + 1) (by simp) rfl rfl (one1s _) HBD.out hWB ?_); intro v' w' hown' hb' hg')
        go_roundw
        case rel => exact ⟨k + 1, acc ++ [vl], by omega, by go_num, by rw [vstrs_app]; exact hown', by rw [Hq.out]; exact HK.out, hba.trans hb', by simp; omega⟩
        case measure => simp [intOf]; omega
      · have hnb : (nm == name) = false := by simp [hnm]
        rw [if_neg hnm, List.append_nil] at HK
        clear hnm
        go_wp2
        go_roundw
        case rel => exact ⟨k + 1, acc, by omega, by go_num, HOa.out, by rw [Hq.out]; exact HK.out, hba, by omega⟩
        case measure => simp [intOf]; omega
theorem splitK_mem (a : UInt8) : ∀ (k : Nat) (s : List UInt8), ∀ p ∈ Lib.splitK [a] 0 k s, p.length ≤ s.length
  | 0, s, p, hp => by
    unfold Lib.splitK at hp
    rw [List.mem_singleton.1 hp]
    exact Nat.le_refl _
  | k + 1, s, p, hp => by
    unfold Lib.splitK at hp
    by_cases h : (Lib.index s [a] == -1) = true
    · rw [if_pos h] at hp
      rw [List.mem_singleton.1 hp]
      exact Nat.le_refl _
    · rw [if_neg h] at hp
      rcases List.mem_cons.1 hp with rfl | hp
      · simp only [List.length_take]
        omega
      · have := splitK_mem a k _ p hp
        rw [List.length_drop] at this
        omega
theorem split_mem (a : UInt8) (s : List UInt8) : ∀ p ∈ Lib.split s [a], p.length ≤ s.length := fun p hp => splitK_mem a _ s p hp
theorem dw_len (p : UInt8 → Bool) : ∀ l : List UInt8, (l.dropWhile p).length ≤ l.length
  | [] => Nat.le_refl _
  | x :: l => by
    rw [List.dropWhile_cons]
    have := dw_len p l
    split
    · rw [List.length_cons]; omega
    · exact Nat.le_refl _
theorem trim_len (l : List UInt8) : (trimW l).length ≤ l.length := by
  rw [trimW_eq]
  have h1 : ∀ q : List UInt8, (Lib.trimRightS q [32, 9]).length ≤ q.length := fun q => by
    unfold Lib.trimRightS
    rw [List.length_reverse]
    have := dw_len ([32, 9].contains ·) q.reverse
    rwa [List.length_reverse] at this
  exact Nat.le_trans (h1 _) (dw_len _ _)
def pieceS (p : List UInt8) : Bool := decide (lowS (trimW p) = wClose)
set_option maxHeartbeats 2000000 in
set_option maxRecDepth 100000 in
set_option linter.unusedSimpArgs false in
theorem closes_any (qb : Nat) (hs : List HdrT) (hv : Value) (w : World) (hq : w.cell? ⟨qb, 2, none⟩ = some hv) (hh : Hdrs w hv hs) (hn : hs.length ≤ 1000) (hl : ∀ v ∈ vals hs wConn, v.length ≤ 100000000) (hE : Env w) :
    Calls Tryz.prog 34 #[.pointer (some ⟨qb, 0, none⟩)] w (Ret (.bool (closeS hs)) w) := by
  have HV := Lib.hid (values_any qb hs hv wConn w hq hh hn)
  have hvl : (vals hs wConn).length ≤ 1000 := by
    unfold vals
    rw [List.length_map]
    exact Nat.le_trans (List.length_filter_le _ _) hn
  obtain ⟨ANS, hA⟩ : ∃ A, closeS hs = A := ⟨_, rfl⟩
  rw [hA]
  have hA2 : ((vals hs wConn).any fun v => (Lib.split v [44]).any pieceS) = ANS := hA
  generalize vals hs wConn = vs at *
  have HLn := Lib.hid hl
  have HE := Lib.hid hE
  unfold wConn at HV
  clear hA hq hh hn hl hE
  go_enter Tryz.func34, Tryz.ntmps34
  go_wp2_with fail
  refine HV.out.mono ?_
  rintro e w1 ⟨A, cap, rfl, hv1, hb1⟩
  have HS := Lib.hid hv1
  have HE1 := Lib.hid (HE.out.below hb1)
  clear hv1 HV HE
  go_wp2_with fail
  go_loopw [10] (fun i wr => ∃ k : Nat, k ≤ vs.length ∧ i = .int .i64 k ∧ Hid (((vs.drop k).any fun v => (Lib.split v [44]).any pieceS) = ANS) ∧ Below w1.heap.size w1 wr) (fun i _ => vs.length - (intOf i).toNat)
  case atStart => exact ⟨0, Nat.zero_le _, rfl, hA2, Below.refl _ _⟩
  case round =>
    obtain ⟨k, hk, rfl, HK, hbw⟩ := hrel
    clear hA2
    rcases hd : vs.drop k with _ | ⟨x, q⟩
    · have hk2 : k = vs.length := by have := drop_nil hd; omega
      rw [hd] at HK
      obtain rfl : false = ANS := HK.out
      clear hd HK
      subst hk2
      go_wp2
      go_ret
      exact ⟨rfl, hb1.trans (hbw.mono hb1.size)⟩
    · obtain ⟨hlt, hx, hq'⟩ := drop_consA hd
      rw [hd, List.any_cons] at HK
      have Hq := Lib.hid hq'
      obtain ⟨A', cap', hva, _, _, hac⟩ := HS.out.below hbw (Nat.le_refl _)
      injection hva with e1 e2 e3
      subst e1 e3
      clear e2
      obtain ⟨b, o, rfl, hbl, c0⟩ := hac k x hx
      have hxl := HLn.out x (List.mem_of_getElem? hx)
      have hki : (k : Int) < vs.length := by omega
      have hk0 : (0 : Int) ≤ (k : Int) := by omega
      have HSp := Lib.hid (ssplit_any x [44] wr (by omega) (by decide) (HE1.out.below hbw))
      have HPl := Lib.hid (fun p (hp : p ∈ Lib.split x [44]) => split_mem 44 x p hp)
      have hxx : ∀ hk, (⟨x.toArray⟩ : ByteArray)[0]'hk = (⟨x.toArray⟩ : ByteArray)[0]'hk := fun _ => rfl
      generalize Lib.split x [44] = ps at *
      clear hd hx hq' hac hxx
      go_wp2_with fail
      refine HSp.out.mono ?_
      rintro e w2 ⟨lb, rfl, hv2, hb2⟩
      have HS2 := Lib.hid hv2
      have hbw2 := hbw.trans (hb2.mono hbw.size)
      obtain ⟨_, _, -, hpm1, hpm2, -⟩ := hv2
      have hpm : ps.length ≤ 9223372036854775807 := by unfold maxLen at hpm2; omega
      clear hpm1 hpm2
      obtain ⟨ANS2, hA3⟩ : ∃ A, ps.any pieceS = A := ⟨_, rfl⟩
      rw [hA3] at HK
      clear c0 HSp hb2
      go_wp2_with fail
      go_loopw [17] (fun i wx => ∃ j : Nat, j ≤ ps.length ∧ i = .int .i64 j ∧ Hid ((ps.drop j).any pieceS = ANS2) ∧ Below w2.heap.size w2 wx) (fun i _ => ps.length - (intOf i).toNat)
      case atStart => exact ⟨0, Nat.zero_le _, rfl, hA3, Below.refl _ _⟩
      case round =>
        obtain ⟨j, hj, rfl, HJ, hbx⟩ := hrel
        clear hA3
        rcases hd : ps.drop j with _ | ⟨y, r⟩
        · have hj2 : j = ps.length := by have := drop_nil hd; omega
          rw [hd] at HJ
          obtain rfl : false = ANS2 := HJ.out
          clear hd HJ
          subst hj2
          rw [Bool.false_or] at HK
          go_wp2
          go_roundw
          case rel => exact ⟨k + 1, by omega, by go_num, by rw [Hq.out]; exact HK.out, hbw2.trans (hbx.mono hbw2.size)⟩
          case measure => simp [intOf]; omega
        · obtain ⟨hlt2, hy, hr'⟩ := drop_consA hd
          rw [hd, List.any_cons] at HJ
          have Hr := Lib.hid hr'
          obtain ⟨A', cap', hva, _, _, hac⟩ := HS2.out.below hbx (Nat.le_refl _)
          injection hva with e1 e2 e3
          subst e1 e3
          clear e2
          obtain ⟨b', o', he', hbl', d0⟩ := hac j y hy
          injection he' with he'
          injection he' with e4 e5 _
          subst e4 e5
          rw [Nat.zero_add] at d0
          have hyl := HPl.out y (List.mem_of_getElem? hy)
          have hji : (j : Int) < ps.length := by omega
          have hj0 : (0 : Int) ≤ (j : Int) := by omega
          have htl := trim_len y
          have HTr := Lib.hid (fun w => trim_any y w (by unfold maxLen; omega))
          have HLw := Lib.hid (fun w => wlower_any (trimW y) w (by omega))
          have hpc : pieceS y = decide (lowS (trimW y) = wClose) := rfl
          generalize lowS (trimW y) = lw at *
          generalize trimW y = ty at *
          unfold wClose at hpc
          clear hd hy hr' hac hbl'
          cases hp : pieceS y
          · rw [hp] at HJ hpc
            have hne : (lw == [99, 108, 111, 115, 101]) = false := beq_eq_false_iff_ne.2 (of_decide_eq_false hpc.symm)
            rw [Bool.false_or] at HJ
            clear hp hpc
            go_wp2_with (first | (go_at_call 58; refine (HTr.out _).mono ?_; rintro e w3 ⟨rfl, hb3⟩) | (go_at_call 60; refine (HLw.out _).mono ?_; rintro e w4 ⟨rfl, hb4⟩))
            go_roundw
            case rel => exact ⟨j + 1, by omega, by go_num, by rw [Hr.out]; exact HJ.out, (hbx.trans (hb3.mono hbx.size)).trans (hb4.mono (Nat.le_trans hbx.size hb3.size))⟩
            case measure => simp [intOf]; omega
          · rw [hp] at HJ hpc
            have hne : (lw == [99, 108, 111, 115, 101]) = true := beq_iff_eq.2 (of_decide_eq_true hpc.symm)
            obtain rfl : true = ANS2 := HJ.out
            obtain rfl : true = ANS := HK.out
            clear hp hpc HJ HK
            have hbx2 := hbw2.trans (hbx.mono hbw2.size)
            go_wp2_with (first | (go_at_call 58; refine (HTr.out _).mono ?_; rintro e w3 ⟨rfl, hb3⟩) | (go_at_call 60; refine (HLw.out _).mono ?_; rintro e w4 ⟨rfl, hb4⟩))
            go_ret
            exact ⟨rfl, hb1.trans (((hbx2.trans (hb3.mono hbx2.size)).trans (hb4.mono (Nat.le_trans hbx2.size hb3.size))).mono hb1.size)⟩
end Go.Proofs.YtlkbfehdiopkbaaGreatDoor

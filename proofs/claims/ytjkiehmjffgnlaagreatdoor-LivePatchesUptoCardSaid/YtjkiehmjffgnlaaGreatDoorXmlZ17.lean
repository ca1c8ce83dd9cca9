import Derived.Test.YtjkiehmjffgnlaaGreatDoorXmlZ16
import Derived.Laws.CopyOwn
import Derived.Laws.OwnMore
import Derived.StillTailTactics
import Derived.IntWalk
namespace Go.Proofs.YtjkiehmjffgnlaaGreatDoor
set_option linter.unusedVariables false
set_option linter.unusedSimpArgs false
open Go.RowKit

theorem tblF_of {ps : Pairs} (h : GoodQ ps) {p : UInt8 × List UInt8} (hp : p ∈ ps) : tblF ps p.1 = some p.2 := by
  induction ps with
  | nil => cases hp
  | cons q r ih =>
    rw [tblF_cons]
    rcases List.mem_cons.1 hp with rfl | hp
    · rw [if_pos rfl]
    · have hn := h.nodup
      rw [List.map_cons, List.nodup_cons] at hn
      rw [if_neg (fun e => hn.1 (List.mem_map.2 ⟨p, hp, e.symm⟩))]
      exact ih h.tail hp
theorem rep_next {ps : Pairs} {s q : List UInt8} {x : UInt8} {k : Nat} (hd : s.drop k = x :: q) : repP ps (s.take (k + 1)) = repP ps (s.take k) ++ repF ps x := by
  rw [(fl_take hd).2, repP_app, repP_cons]
  congr 1
  exact List.append_nil _
theorem more_take {ps : Pairs} {s : List UInt8} {j : Nat} {p : UInt8 × List UInt8} (h : ps[j]? = some p) : moreS (ps.take (j + 1)) s = moreS (ps.take j) s + s.count p.1 * (p.2.length - 1) := by
  rw [List.take_add_one, h, more_app]
  congr 1
theorem more_part (ps : Pairs) (s : List UInt8) (j : Nat) : moreS (ps.take j) s ≤ moreS ps s := by
  conv => rhs; rw [← List.take_append_drop j ps]
  rw [more_app]
  omega
theorem le_sum : ∀ {l : List Nat} {x : Nat}, x ∈ l → x ≤ l.sum
  | y :: l, x, h => by
    rw [List.sum_cons]
    rcases List.mem_cons.1 h with rfl | h
    · omega
    · have := le_sum h; omega
theorem more_zero {ps : Pairs} (hps : WideP ps) {s : List UInt8} (h : moreS ps s = 0) : repP ps s = s := by
  refine count_none fun p hp => ?_
  have h2 := hps.two p hp
  have : s.count p.1 * (p.2.length - 1) ≤ moreS ps s := by
    unfold moreS
    exact le_sum (List.mem_map.2 ⟨p, hp, rfl⟩)
  rw [h] at this
  rcases Nat.eq_zero_or_pos (s.count p.1) with h0 | h0
  · exact h0
  · have := Nat.mul_pos h0 (show 0 < p.2.length - 1 by omega)
    omega
theorem same_of_len {ps : Pairs} (hps : WideP ps) {s : List UInt8} (h : (repP ps s).length = s.length) : repP ps s = s := by
  refine more_zero hps ?_
  have := repP_more hps.good s
  omega
theorem rep_grows {ps : Pairs} (h : GoodQ ps) : ∀ s : List UInt8, s.length ≤ (repP ps s).length := fun s => by have := repP_more h s; omega
theorem vb_one' (l : List UInt8) : ∀ v ∈ vbytes l, v.oneCell' = true := by
  intro v hv
  unfold vbytes at hv
  obtain ⟨b, -, rfl⟩ := List.mem_map.1 hv
  rfl
theorem buf_put (A : List UInt8) (n : Nat) (x : UInt8) : (vbytes (A ++ List.replicate (n + 1) 0)).toArray.setIfInBounds A.length (.int .u8 x.toNat) = (vbytes (A ++ [x] ++ List.replicate n 0)).toArray := by
  rw [List.setIfInBounds_toArray]
  congr 1
  unfold vbytes
  rw [List.replicate_succ, List.map_append, List.set_append_right _ _ (by rw [List.length_map]; exact Nat.le_refl _), List.length_map, Nat.sub_self]
  simp
theorem buf_copy (A u : List UInt8) (n : Nat) : (vbytes (A ++ List.replicate (u.length + n) 0)).take A.length ++ vbytes u ++ (vbytes (A ++ List.replicate (u.length + n) 0)).drop (A.length + u.length) = vbytes (A ++ u ++ List.replicate n 0) := by
  unfold vbytes
  rw [List.map_append, List.take_append_of_le_length (by rw [List.length_map]; exact Nat.le_refl _), List.take_of_length_le (by rw [List.length_map]; exact Nat.le_refl _), List.map_replicate, List.drop_append, List.length_map, List.map_append, List.map_append, List.map_replicate]
  congr 1
  rw [List.drop_of_length_le (by rw [List.length_map]; omega), List.nil_append, List.drop_replicate]
  congr 1
  omega
/-- 'copy(buf[j:], word)' inside a region that draws its order. -/
theorem step_copyB {ops : Array Oper} {o : Oper} {a : Act} {K : Act → World → Prop} {Q : Exit → Act → World → Prop} {X : Prop} {w : World} (hgd : o.guard = none) (d s : Operand)
    (ho : o.op = .call { callee := .builtin .copy, args := #[d, s], argTypes := #[116, 116] })
    (q J m mc h n cap : Nat) (hd : a.eval d = .slice (some ⟨q, J, none⟩) m mc) (hs : a.eval s = .slice (some ⟨h, 0, none⟩) n cap) (A u : List UInt8) (r : Nat) (hn : n = u.length) (hum : u.length ≤ m) (hJ : J = A.length) (hg : w.heap[q]? = some (.cells (vbytes (A ++ List.replicate (u.length + r) 0)).toArray 5 (0, 0))) (hbw : BW w h u)
    (hK : ∀ w', w'.heap[q]? = some (.cells (vbytes (A ++ u ++ List.replicate r 0)).toArray 5 (0, 0)) → w.grownBy w' (some q) → K (a.put o.dst (.int .i64 (u.length : Nat))) w') :
    if Region.wanted o (yielded ops a.tmps) = true then Oper.wp Tryz.prog o a w K Q else X := by
  subst hn hJ
  have hw : Region.wanted o (yielded ops a.tmps) = true := by simp [Region.wanted, hgd]
  rw [if_pos hw]
  have hl : (vbytes u).length = u.length := by unfold vbytes; simp
  have hrun := run_copy_row (P := Tryz.prog) w 116 116 o.type 5 q A.length m mc ⟨h, 0, none⟩ u.length cap _ 5 (vbytes u) Tryz.underlying116 (by kernel_rfl) hg (by rw [hl]; exact (Nat.min_eq_left hum).symm)
    (fun j v hv => by
      rw [add_eq, Nat.zero_add]
      unfold vbytes at hv
      rw [List.getElem?_map] at hv
      obtain ⟨c, hc, rfl⟩ := Option.map_eq_some_iff.1 hv
      exact (hbw.2 j c hc).1)
    (by rw [hl]; simp [vbytes]) (vb_one' u)
  rw [hl] at hrun
  have e : ((vbytes (A ++ List.replicate (u.length + r) 0)).toArray.toList.take A.length ++ vbytes u ++ (vbytes (A ++ List.replicate (u.length + r) 0)).toArray.toList.drop (A.length + u.length)).toArray = (vbytes (A ++ u ++ List.replicate r 0)).toArray := by rw [← buf_copy]
  rw [e] at hrun
  unfold Oper.wp execOp
  simp only [ho, resolve, invoke, builtin, Sem.run_bind, Sem.run_pure, Result.andThen_ok, List.map_toArray, List.map_cons, List.map_nil, hd, hs, hrun]
  exact hK _ (setRow_heap w q _ _ _ _ hg) (grown_row w q _)
set_option maxHeartbeats 16000000 in
set_option maxRecDepth 100000 in
set_option linter.unusedSimpArgs false in
theorem xbsReplace (ps : Pairs) (hps : WideP ps) (P : Nat → Prop) (g : Nat) (s : List UInt8) (w : World) (ht : TbP P w g ps) (hs : s.length ≤ 1000000000) :
    Calls Tryz.prog 224 #[.pointer (some ⟨g, 0, none⟩), .string ⟨s.toArray⟩] w (Ret (.string ⟨(repP ps s).toArray⟩) w) := by
  obtain ⟨E, hEE⟩ : ∃ E, E = Ret (.string ⟨(repP ps s).toArray⟩) w := ⟨_, rfl⟩
  rw [← hEE]
  have HEE := Lib.hid hEE
  have HT := Lib.hid ht
  have HPS := Lib.hid hps
  have h6 := repP_len6 hps.good s
  have HGr := Lib.hid (rep_grows hps.good s)
  have HMo := Lib.hid (repP_more hps.good s)
  obtain ⟨N, hN⟩ : ∃ N, N = (repP ps s).length := ⟨_, rfl⟩
  rw [← hN] at h6 HGr HMo
  have HN := Lib.hid hN
  have hsN := HGr.out
  obtain ⟨hPg, arr, kv, hta, kA, kcap, hkv, hk1, hk2, hkc⟩ := ht
  have hkl : (ps.reverse.map (·.1)).length = ps.length := by simp
  rw [hkl] at hkv hk1
  subst hkv
  have x256 := (xat hta.row 256).trans hta.last
  have HKC := Lib.hid hkc
  have hfew := hps.good.few
  obtain ⟨M, hM⟩ : ∃ M, M = ps.length := ⟨_, rfl⟩
  rw [← hM] at hk1 hfew x256
  have HM := Lib.hid hM
  clear hEE hps hN hta hkc hkl hM hPg
  go_enter Tryz.func224, Tryz.ntmps224
  go_upto_if 26 with (fail)
  go_cut [5, 6] (fun nv av wc => nv = .int .i64 (N : Int) ∧ av = .bool (decide (N ≠ s.length)) ∧ Hid (Below w.heap.size w wc))
  case first =>
    by_cases hb8 : M * 8 ≤ s.length
    · have hb8i : (M : Int) * 8 ≤ (s.length : Int) := by omega
      rw [decide_eq_true hb8i]
      go_wp2_with fail
      go_loopg [5, 6, 32] M (fun gk ns an i wr => ∃ k : Nat, k + gk = M ∧ i = .int .i64 k ∧ ∃ (A : Nat) (F : Bool), ns = .int .i64 A ∧ an = .bool F ∧ Hid (A = s.length + moreS (ps.reverse.take k) s) ∧ Hid (F = decide (moreS (ps.reverse.take k) s ≠ 0)) ∧ Hid (Below w.heap.size w wr))
      case atStart => exact ⟨0, by omega, rfl, s.length, false, rfl, rfl, by rw [List.take_zero]; rfl, by rw [List.take_zero]; rfl, Below.refl _ _⟩
      case round =>
        obtain ⟨k, hkg, rfl, A, F, rfl, rfl, HA, HF, HBr⟩ := hrel
        have hmp := more_part ps.reverse s k
        rw [more_rev] at hmp
        have hmo := HMo.out
        rcases Nat.lt_or_ge k M with hkM | hkM
        · have hkl : k < ps.reverse.length := by rw [List.length_reverse, ← HM.out]; exact hkM
          obtain ⟨p, hp⟩ : ∃ p, ps.reverse[k]? = some p := ⟨_, List.getElem?_eq_getElem hkl⟩
          have hpm : p ∈ ps := List.mem_reverse.1 (List.mem_of_getElem? hp)
          have HStep := Lib.hid (more_take (s := s) hp)
          have hmp1 := more_part ps.reverse s (k + 1)
          rw [more_rev, HStep.out] at hmp1
          have hp2 := HPS.out.two p hpm
          have hp6 := (HPS.out.good.pos p hpm).2
          obtain ⟨kb, o, rfl, -, hkb, hcell⟩ := HKC.out k p.1 (by rw [List.getElem?_map, hp]; rfl)
          have hat := HT.out.at p.1
          rw [tblF_of HPS.out.good hpm] at hat
          obtain ⟨h, cap, htc, hc1, hc2, -, -, -⟩ := hat
          have hgl : g < w.heap.size := cell_lt htc
          have d0 := (HBr.out.cell (p := ⟨kb, o + k, none⟩) hkb).trans hcell
          have d1 := (HBr.out.cell (p := ⟨g, p.1.toNat, none⟩) hgl).trans htc
          obtain ⟨c, u⟩ := p
          simp only at *
          have hc256 : c.toNat < 256 := c.toNat_lt
          have hx0 : ∀ hk, (⟨#[c]⟩ : ByteArray)[0]'hk = c := fun hk => rfl
          have hcs : s.count c ≤ s.length := List.count_le_length
          have HCt := Lib.hid (show ∀ w, Calls Tryz.prog 162 #[.string ⟨s.toArray⟩, .string ⟨#[c]⟩] w (Same0 (.int .i64 (s.count c : Nat)) w) from fun w => (Tryz.strings_Count_one ⟨s.toArray⟩ c w).mono fun e w' h => ⟨h.1, h.2.symm⟩)
          obtain ⟨C, hC⟩ : ∃ C, C = s.count c := ⟨_, rfl⟩
          rw [← hC] at HCt HStep hmp1 hcs
          obtain ⟨m0, hm0⟩ : ∃ m0, m0 = moreS (ps.reverse.take k) s := ⟨_, rfl⟩
          rw [← hm0] at HStep hmp hmp1 HA HF
          have hA := HA.out
          obtain ⟨m1, hm1⟩ : ∃ m1, m1 = moreS (ps.reverse.take (k + 1)) s := ⟨_, rfl⟩
          rw [← hm1] at HStep
          obtain ⟨U, hU⟩ : ∃ U, U = u.length - 1 := ⟨_, rfl⟩
          rw [← hU] at HStep hmp1
          obtain ⟨D, hD⟩ : ∃ D, D = C * U := ⟨_, rfl⟩
          rw [← hD] at HStep hmp1
          have hDi : (C : Int) * (U : Int) = (D : Int) := by rw [hD, Int.natCast_mul]
          have hD0 : C ≠ 0 → D ≠ 0 := fun h0 => by
            rw [hD]
            exact Nat.mul_ne_zero h0 (by omega)
          have hD1 : C = 0 → D = 0 := fun h0 => by rw [hD, h0, Nat.zero_mul]
          have HM1 := Lib.hid hm1
          have hUl : U + 1 = u.length := by omega
          have k1 : (k : Int) < M := by omega
          have k2 : (0 : Int) ≤ k := by omega
          have hhi : s.length + m0 + D ≤ 6 * 1000000000 := by omega
          have hUi : (u.length : Int) - 1 = (U : Int) := by omega
          have e1 : IntKind.i64.wrap ((u.length : Int) - 1) = (U : Int) := by rw [hUi]; exact IntWalk.i64_in _ (by omega)
          have e2 : IntKind.i64.wrap ((C : Int) * (U : Int)) = (D : Int) := by rw [hDi]; exact IntWalk.i64_in _ (by omega)
          have e3 : IntKind.i64.wrap ((A : Int) + (D : Int)) = (A : Int) + (D : Int) := IntWalk.i64_in _ (by omega)
          have HE1 := Lib.hid e1
          have HE2 := Lib.hid e2
          have HE3 := Lib.hid e3
          have HD0 := Lib.hid hD0
          have HD1 := Lib.hid hD1
          clear hm0 hm1 hD hU hC hcell htc hp hpm hkl hmo hmp1 e1 e2 e3 hD0 hD1 hDi hUi hA
          go_wp2_with fail
          refine (HCt.out wr).mono ?_
          rintro e w1 ⟨rfl, rfl⟩
          clear HCt
          by_cases hC0 : C = 0
          · have hci : ((C : Int) != 0) = false := by rw [hC0]; rfl
            have HR := Lib.hid (show moreS (ps.reverse.take (k + 1)) s = m0 by rw [← HM1.out, HStep.out, HD1.out hC0, Nat.add_zero])
            clear hC0
            go_wp2
            go_roundg (gk - 1)
            case measure => omega
            case rel => exact ⟨k + 1, by omega, by go_num, A, F, rfl, rfl, by rw [HR.out]; exact HA.out, by rw [HR.out]; exact HF.out, HBr⟩
          · have hci : ((C : Int) != 0) = true := by rw [bne_iff_ne]; omega
            have HR := Lib.hid (show moreS (ps.reverse.take (k + 1)) s = m0 + D by rw [← HM1.out, HStep.out])
            have HNZ := Lib.hid (show decide (m0 + D ≠ 0) = true from decide_eq_true (by have := HD0.out hC0; omega))
            clear hC0
            go_upto_region 9 with (fail)
            have e1 := HE1.out
            have e2 := HE2.out
            have e3 := HE3.out
            go_quiet (fail)
            clear e1 e2 e3
            go_wp2
            go_roundg (gk - 1)
            case measure => omega
            case rel => exact ⟨k + 1, by omega, by go_num, A + D, true, by go_num, rfl, by rw [HR.out, HA.out, Nat.add_assoc]; trivial, by rw [HR.out, HNZ.out]; trivial, HBr.out.trans (below_draws (Below.refl _ _) _ |>.mono (by have := HBr.out.size; omega))⟩
        · have hkM2 : k = M := by omega
          have HR := Lib.hid (show A = N by
            rw [HA.out, List.take_of_length_le (by rw [List.length_reverse, ← HM.out]; omega), more_rev]
            exact hmo.symm)
          have HR2 := Lib.hid (show F = decide (N ≠ s.length) by
            rw [HF.out, decide_eq_decide]
            have := HR.out
            have := HA.out
            omega)
          have hki : ¬ ((k : Int) < (M : Int)) := by omega
          clear hkM
          go_wp2
          go_meet
          exact ⟨by rw [HR.out], by rw [HR2.out], HBr⟩
    · have hb8i : ¬ ((M : Int) * 8 ≤ (s.length : Int)) := by omega
      go_wp2_with fail
      go_loopg [5, 6, 10] s.length (fun gk ns an i wr => ∃ k : Nat, k + gk = s.length ∧ i = .int .i64 k ∧ ∃ (A : Nat) (F : Bool), ns = .int .i64 A ∧ an = .bool F ∧ Hid (A = s.length + ((repP ps (s.take k)).length - k)) ∧ Hid (F = decide ((repP ps (s.take k)).length ≠ k)) ∧ k ≤ (repP ps (s.take k)).length ∧ w = wr)
      case atStart => exact ⟨0, by omega, rfl, s.length, false, rfl, rfl, by rw [List.take_zero]; rfl, by rw [List.take_zero]; rfl, Nat.zero_le _, rfl⟩
      case round =>
        obtain ⟨k, hkg, rfl, A0, F, rfl, rfl, HA, HF, hkr, rfl⟩ := hrel
        rcases hd : s.drop k with _ | ⟨x, q⟩
        · have hk2 : k = s.length := by have := drop_nil hd; omega
          subst hk2
          have HR := Lib.hid (show repP ps (s.take s.length) = repP ps s by rw [List.take_length])
          have HR1 := Lib.hid (show A0 = N by rw [HA.out, HR.out, ← HN.out]; omega)
          have HR2 := Lib.hid (show F = decide (N ≠ s.length) by rw [HF.out, HR.out, ← HN.out])
          clear hd
          go_wp2
          go_meet
          exact ⟨by rw [HR1.out], by rw [HR2.out], Below.refl _ _⟩
        · obtain ⟨hlt, hxb, hr⟩ := drop_cons hd
          have k1 : (k : Int) < s.length := by omega
          have k2 : (0 : Int) ≤ k := by omega
          have hx256 : x.toNat < 256 := x.toNat_lt
          have hat := HT.out.at x
          have hstep := congrArg List.length (rep_next (ps := ps) hd)
          rw [List.length_append] at hstep
          have hN6 : (repP ps (s.take k)).length ≤ 6 * s.length := by
            have := repP_len6 HPS.out.good (s.take k)
            rw [List.length_take] at this
            omega
          obtain ⟨L0, hL0⟩ : ∃ L0, L0 = (repP ps (s.take k)).length := ⟨_, rfl⟩
          obtain ⟨L1, hL1⟩ : ∃ L1, L1 = (repP ps (s.take (k + 1))).length := ⟨_, rfl⟩
          rw [← hL0] at hstep hN6 hkr HA HF
          have hA := HA.out
          rw [← hL1] at hstep
          have HL1 := Lib.hid hL1
          clear hL0 hL1 hd hr
          rcases hx : tblF ps x with _ | u
          · rw [hx] at hat
            have hcell : w.cell? ⟨g, x.toNat, none⟩ = some (.slice none 0 0) := hat
            have h1 : (repF ps x).length = 1 := by unfold repF; rw [hx]; rfl
            rw [h1] at hstep
            have HR1 := Lib.hid (show A0 = s.length + (L1 - (k + 1)) by omega)
            have HR2 := Lib.hid (show F = decide (L1 ≠ k + 1) by rw [HF.out, decide_eq_decide]; omega)
            clear hx hat h1 hA
            go_wp2
            go_roundg (gk - 1)
            case measure => omega
            case rel => exact ⟨k + 1, by omega, by go_num, A0, F, rfl, rfl, by rw [← HL1.out]; exact HR1.out, by rw [← HL1.out]; exact HR2.out, by rw [← HL1.out]; omega, rfl⟩
          · rw [hx] at hat
            obtain ⟨h, cap, hcell, hc1, hc2, -, -, -⟩ := hat
            have h1 : (repF ps x).length = u.length := by unfold repF; rw [hx]; rfl
            rw [h1] at hstep
            have hm := tblF_mem hx
            have hp2 : 2 ≤ u.length := HPS.out.two _ hm
            have hp6 : u.length ≤ 6 := (HPS.out.good.pos _ hm).2
            obtain ⟨U, hU⟩ : ∃ U, u.length = U + 1 := ⟨u.length - 1, by omega⟩
            have HR1 := Lib.hid (show A0 + U = s.length + (L1 - (k + 1)) by omega)
            have hUi : (u.length : Int) - 1 = (U : Int) := by omega
            have HR2 := Lib.hid (show true = decide (L1 ≠ k + 1) from (decide_eq_true (by omega)).symm)
            have hAb : (A0 : Int) ≤ 10 * 1000000000 := by omega
            have hA1 : (0 : Int) ≤ (A0 : Int) := by omega
            clear hx hm h1 hA hU
            go_wp2
            go_roundg (gk - 1)
            case measure => omega
            case rel => exact ⟨k + 1, by omega, by go_num, A0 + U, true, by go_num, rfl, by rw [← HL1.out]; exact HR1.out, by rw [← HL1.out]; exact HR2.out, by rw [← HL1.out]; omega, rfl⟩
  case rest =>
  obtain ⟨rfl, rfl, HBc⟩ := hcut
  by_cases hNs : N = s.length
  · have HE2 := Lib.hid (show repP ps s = s from same_of_len HPS.out (by rw [← HN.out]; exact hNs))
    rw [decide_eq_false (by simpa using hNs)]
    clear hNs HPS HT HKC
    go_wp2
    rw [HEE.out, HE2.out]
    exact ⟨rfl, HBc.out⟩
  rw [decide_eq_true hNs]
  obtain ⟨i, hi, hz, hsz, hby⟩ := info_parts (show (Tryz.prog.info? 5).map (fun i => (i.zero, i.size, i.bytes)) = some (some (.int .u8 0), 1, 1) by kernel_rfl)
  obtain ⟨wm, hms, hown, hgm⟩ := run_make_full (P := Tryz.prog) wc wc.heap.size 116 5 i _ 1 Tryz.underlying116 hi hz hsz .i64 .i64 N (by rw [hby]; omega) (by unfold maxLen; omega) (Nat.le_refl _)
  have hzc : (Value.int .u8 0).cells = #[.int .u8 0] := rfl
  rw [hzc, Nat.mul_one, toList_madeCells_one] at hown
  clear hi hz hsz hby i hzc
  have HBm := Lib.hid (show Below w.heap.size w wm from HBc.out.trans ⟨hgm.os, hgm.tape, hgm.output, hgm.size, fun j hj => hgm.block j (by have := HBc.out.size; omega) (by simp)⟩)
  have hN1 : 1 ≤ N := by omega
  have hrow : wm.heap[wc.heap.size]? = some (.cells (vbytes (repP ps (s.take 0) ++ List.replicate (N - (repP ps (s.take 0)).length) 0)).toArray 5 (0, 0)) := by
    rcases hown.2 with ⟨h, -⟩ | ⟨gg, cap, cur, hv, hbg, hg, hnc, hcm, hcs, htk⟩
    · cases h
    · injection hv with h1 h2 h3
      injection h1 with h1
      injection h1 with h1
      subst h1 h3
      rw [hg]
      have e : cur.toList = List.replicate N (.int .u8 0) := by rw [← htk, List.take_of_length_le (by rw [Array.length_toList, hcs]; omega)]
      have e2 : repP ps (s.take 0) = [] := by rw [List.take_zero]; rfl
      rw [e2]
      congr 2
      apply Array.toList_inj.1
      rw [e]
      unfold vbytes
      simp
  have HR0 := Lib.hid hrow
  clear hown hgm hrow
  obtain ⟨q, hq⟩ : ∃ q, q = wc.heap.size := ⟨_, rfl⟩
  rw [← hq] at hms HR0
  have hqw : w.heap.size ≤ q := by rw [hq]; exact HBc.out.size
  clear hq HBc hNs HKC
  have HSum := Lib.hid (fun k => show (repP ps (s.take k)).length + (repP ps (s.drop k)).length = N by rw [HN.out, ← List.length_append, ← repP_app, List.take_append_drop])
  go_wp2_with fail
  clear hms
  go_loopg [13, 14] s.length (fun gk jv iv wr => ∃ (k J : Nat), k + gk = s.length ∧ jv = .int .i64 J ∧ iv = .int .i64 k ∧ Hid (J = (repP ps (s.take k)).length) ∧ Hid (wr.heap[q]? = some (.cells (vbytes (repP ps (s.take k) ++ List.replicate (N - J) 0)).toArray 5 (0, 0))) ∧ Hid (Below w.heap.size w wr))
  case atStart => exact ⟨0, 0, by omega, rfl, rfl, by rw [List.take_zero]; rfl, by have := HR0.out; rw [List.take_zero] at this ⊢; exact this, HBm⟩
  case round =>
    obtain ⟨k, J, hkg, rfl, rfl, HJ, HRow, HBr⟩ := hrel
    clear HR0 HBm
    have hJ := HJ.out
    have hsum := HSum.out k
    rw [← hJ] at hsum
    rcases hd : s.drop k with _ | ⟨x, r⟩
    · have hk2 : k = s.length := by have := drop_nil hd; omega
      subst hk2
      have hrw : wr.heap[q]? = some (.cells (vbytes (repP ps s)).toArray 5 (0, 0)) := by
        have h1 := HRow.out
        have h2 : J = N := by rw [hJ, List.take_length, HN.out]
        rw [List.take_length, h2, Nat.sub_self, List.replicate_zero, List.append_nil] at h1
        exact h1
      have hcv := conv_bytes wr (.slice (some ⟨q, 0, none⟩) N N) (repP ps s) ⟨some ⟨q, 0, none⟩, N, by rw [vbytes_len, ← HN.out], by rw [vbytes_len, ← HN.out]; exact Nat.le_refl _, by unfold maxLen; omega, fun j u hj => ⟨q, 0, rfl, xlt hrw, by rw [Nat.zero_add, xat hrw, List.getElem?_toArray]; exact hj⟩⟩
      clear hd hJ hsum hrw
      go_wp2
      rw [HEE.out]
      exact ⟨rfl, HBr.out⟩
    · obtain ⟨hlt, hxb, hr⟩ := drop_cons hd
      have k1 : (k : Int) < s.length := by omega
      have k2 : (0 : Int) ≤ k := by omega
      have hx256 : x.toNat < 256 := x.toNat_lt
      have hstep := rep_next (ps := ps) hd
      have hrl := (repF_len HPS.out.good x).1
      have hrl2 := (repF_len HPS.out.good x).2
      have hge : (repF ps x).length ≤ (repP ps (s.drop k)).length := by rw [hd, repP_cons, List.length_append]; omega
      have hat := (HT.out.move (Q := fun _ => True) (Moves.below HBr.out fun _ _ _ => trivial)).at x
      have HSt := Lib.hid hstep
      clear hd hr hstep
      rcases hx : tblF ps x with _ | u
      · rw [hx] at hat
        have hcell : wr.cell? ⟨g, x.toNat, none⟩ = some (.slice none 0 0) := hat
        have hrf : repF ps x = [x] := by unfold repF; rw [hx]; rfl
        rw [hrf] at HSt hge
        have hJN : J < N := by simp at hge; omega
        obtain ⟨n, hn⟩ : ∃ n, N - J = n + 1 := ⟨N - J - 1, by omega⟩
        have hrw := HRow.out
        rw [hn] at hrw
        have hjl : J < (vbytes (repP ps (s.take k) ++ List.replicate (n + 1) 0)).length := by rw [vbytes_len, List.length_append, List.length_replicate]; omega
        have hjc : wr.cell? ⟨q, J, none⟩ = some ((vbytes (repP ps (s.take k) ++ List.replicate (n + 1) 0))[J]) := by rw [xat hrw, List.getElem?_toArray, List.getElem?_eq_getElem hjl]
        have hjf := xfree hrw J
        have HR2 := Lib.hid (show (wr.setCell ⟨q, J, none⟩ (.int .u8 x.toNat)).heap[q]? = some (.cells (vbytes (repP ps (s.take (k + 1)) ++ List.replicate (N - (J + 1)) 0)).toArray 5 (0, 0)) by
          have h := heap_setCell_same wr q J _ _ (.int .u8 x.toNat) hrw
          rw [h, hJ, buf_put, HSt.out, ← hJ, show N - (J + 1) = n by omega])
        have HJ2 := Lib.hid (show J + 1 = (repP ps (s.take (k + 1))).length by rw [HSt.out, List.length_append, ← hJ]; rfl)
        have HB2 := Lib.hid (HBr.out.setCell (p := ⟨q, J, none⟩) hqw (.int .u8 x.toNat))
        have j1 : (J : Int) < N := by omega
        have j2 : (0 : Int) ≤ J := by omega
        generalize (vbytes (repP ps (s.take k) ++ List.replicate (n + 1) 0))[J] = cv at hjc
        clear hx hat hrf hJ hsum hn hrw hjl hge hrl hrl2
        go_wp2
        go_roundg (gk - 1)
        case measure => omega
        case rel => exact ⟨k + 1, J + 1, by omega, by go_num, by go_num, HJ2, HR2, HB2⟩
      · rw [hx] at hat
        obtain ⟨h, cap, hcell, hc1, hc2, -, hhg, hbw⟩ := hat
        have hrf : repF ps x = u := by unfold repF; rw [hx]; rfl
        rw [hrf] at HSt hge hrl hrl2
        obtain ⟨n, hn⟩ : ∃ n, N - J = u.length + n := ⟨N - J - u.length, by omega⟩
        have HRw := Lib.hid (show wr.heap[q]? = some (.cells (vbytes (repP ps (s.take k) ++ List.replicate (u.length + n) 0)).toArray 5 (0, 0)) by rw [← hn]; exact HRow.out)
        have HBW := Lib.hid hbw
        have j1 : (J : Int) < N := by omega
        have j2 : (0 : Int) ≤ J := by omega
        have j3 : (J : Int) ≤ N := by omega
        have HJ2 := Lib.hid (show J + u.length = (repP ps (s.take (k + 1))).length by rw [HSt.out, List.length_append, ← hJ])
        have HN2 := Lib.hid (show N - (J + u.length) = n by omega)
        have HJ3 := Lib.hid hJ
        have HUM := Lib.hid (show u.length ≤ N - J by omega)
        clear hx hrf hJ hsum hn hge hbw
        go_upto_region 28 with (fail)
        have HRd := Lib.hid (show wr.drew.heap[q]? = _ from HRw.out)
        have HBd := Lib.hid (show BW wr.drew h u from HBW.out)
        have hx256i : (x.toNat : Int) < 256 := by omega
        go_region_law (refine step_copyB rfl (.tmp 105) (.tmp 111) rfl q J (N - J) (N - J) h u.length cap (by simp [Act.eval, Act.put]; omega) (by simp [Act.eval, Act.put]) (repP ps (s.take k)) u n rfl HUM.out HJ3.out HRd.out HBd.out ?_; intro w3 hr3 hg3)
        all_goals
          have HR2 := Lib.hid (show w3.heap[q]? = some (.cells (vbytes (repP ps (s.take (k + 1)) ++ List.replicate (N - (J + u.length)) 0)).toArray 5 (0, 0)) by rw [HSt.out, HN2.out]; exact hr3)
          have HB2 := Lib.hid (show Below w.heap.size w w3 from HBr.out.trans ⟨hg3.os, hg3.tape, hg3.output, hg3.size, fun j hj => hg3.block j (by have := HBr.out.size; show j < wr.heap.size; omega) (by intro e; injection e with e; omega)⟩)
          clear hr3 hg3
          go_wp2
          go_roundg (gk - 1)
          case measure => omega
          case rel => exact ⟨k + 1, J + u.length, by omega, by go_num, by go_num, HJ2, HR2, HB2⟩
end Go.Proofs.YtjkiehmjffgnlaaGreatDoor

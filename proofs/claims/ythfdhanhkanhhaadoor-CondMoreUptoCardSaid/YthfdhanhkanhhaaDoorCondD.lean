/-
  The walk of cond.Submitted. Conditions: what the listed variables hold; a tag is at most a million bytes; the conditions are fewer than a billion.
-/
import Derived.Test.YthfdhanhkanhhaaDoorCondC
namespace Go.Proofs.YthfdhanhkanhhaaDoor
open Go.RowKit

theorem submitS_cons (out : List (List UInt8)) (g : GroupT) (r : List GroupT) (self : List (List UInt8)) (fs : List FactT) : submitS out (g :: r) self fs = submitS (if groupS g self fs then addS out g.conds else out) r self fs := rfl
theorem addS_cons (out : List (List UInt8)) (c : CondT) (r : List CondT) : addS out (c :: r) = addS (if !decide (c.tok = []) && !c.neg && !decide (c.tok ∈ out) then out ++ [c.tok] else out) r := rfl
/-- what a world must say of the group in block b. -/
def GS (wa : World) (b : Nat) (tg : Bool) (tag : List UInt8) (cv : Value) (w : World) : Prop :=
  w.cell? ⟨b, 0, none⟩ = some (.bool tg) ∧ w.cell? ⟨b, 1, none⟩ = some (.string ⟨tag.toArray⟩) ∧ w.cell? ⟨b, 2, none⟩ = some cv ∧ Below wa.heap.size wa w
theorem GS.keep {wa w w' : World} {b : Nat} {tg : Bool} {tag : List UInt8} {cv : Value} (h : GS wa b tg tag cv w) (hb : Below w.heap.size w w') : GS wa b tg tag cv w' := by
  obtain ⟨h0, h1, h2, h5⟩ := h
  have k : ∀ {a : Addr} {v : Value}, w.cell? a = some v → w'.cell? a = some v := fun {a v} h => (hb.cell (World.block_lt_of_cell? w a h)).trans h
  exact ⟨k h0, k h1, k h2, h5.trans (hb.mono h5.size)⟩
theorem Own.shape {e : TypeId} {B : Nat} {xs : List Value} {v : Value} {w : World} (h : Own e B xs v w) : ∃ A cap, v = .slice A xs.length cap := by
  obtain ⟨A, cap, hv, _⟩ := h.rd
  exact ⟨A, cap, hv⟩
/-- append(s, a, ..): the elements lie in the block just made, whose number is told. -/
theorem wpList_appLitAt {P : Program} {t e : TypeId} {z : Value} {bytes : Nat} (E : Elem P t e z bytes) {ops : Array Oper} {rest : List Oper} {o : Oper} {a : Act} {Q : Exit → Act → World → Prop} {w : World} (hgd : o.guard = none) (s x : Operand)
    (ho : o.op = .call { callee := .builtin .append, args := #[s, x], argTypes := #[t, t] })
    (B : Nat) (xs : List Value) (arr : Array Value) (v : Value) (hs : a.eval s = v) (hown : Own e B xs v w) (m bk : Nat) (hbk : bk = w.heap.size) (hx : a.eval x = .slice (some ⟨bk, 0, none⟩) m m) (hm : arr.size = m) (h1 : ∀ u ∈ arr.toList, u.oneCell' = true)
    (hlen : (xs.length + m) * bytes ≤ 140737488355328) (hB : B ≤ w.heap.size)
    (h : ∀ v' w', Own e B (xs ++ arr.toList) v' w' → Below B w w' → w.grownBy w' v.ownBlock → wpList P ops Q rest (a.put o.dst v') w') : wpList P ops Q (o :: rest) a (w.alloc (.cells arr e)) := by
  subst hbk
  exact wpList_appLit E hgd s x ho B xs arr v hs hown m hx hm h1 hlen hB h
set_option maxHeartbeats 2000000 in
set_option maxRecDepth 100000 in
set_option linter.unusedSimpArgs false in
theorem submitted_any (gv sv fv : Value) (gs : List GroupT) (self : List (List UInt8)) (fs : List FactT) (w : World) (hg : Groups w gv gs) (hs : Strs w sv self) (hf : FactL w fv fs) (ht : Tags gs) (hN : condsN gs ≤ 1000000000) (hE : Env w) :
    Calls Tryd.prog 21 #[gv, sv, fv] w fun e w' => ∃ v, e = .returned v ∧ Strs w' v (submitS [] gs self fs) ∧ Below w.heap.size w w' := by
  have HG := Lib.hid hg
  have HT := Lib.hid ht
  obtain ⟨A, cap, rfl, hcap, hcm, -⟩ := hg
  unfold maxLen at hcm
  obtain ⟨sA, sc, rfl⟩ := strs_ne hs
  have HS' := Lib.hid hs
  have HF := Lib.hid hf
  obtain ⟨fA, fc, rfl, -, -, -⟩ := hf
  clear ht hs
  obtain ⟨ANS, hA⟩ : ∃ A, submitS [] gs self fs = A := ⟨_, rfl⟩
  rw [hA]
  go_enter Tryd.func21, Tryd.ntmps21
  go_wp2
  go_loopw [7, 14] (fun v i wr => ∃ k out, k ≤ gs.length ∧ i = .int .i64 (k : Nat) ∧ Own 9 w.heap.size (vstrs out) v wr ∧ Below w.heap.size w wr ∧ Hid (submitS out (gs.drop k) self fs = ANS) ∧ out.length + condsN (gs.drop k) ≤ 1000000000) (fun _ i _ => gs.length - (intOf i).toNat)
  case atStart => exact ⟨0, [], Nat.zero_le _, rfl, Own.nil _ _ _, Below.refl _ _, hA, by simpa using hN⟩
  case round =>
    obtain ⟨k, out, hk, rfl, ho, hbw, H, hle⟩ := hrel
    clear hA hN
    obtain ⟨A', cap', hva, _, _, hac⟩ := HG.out.at
    injection hva with e1 e2 e3
    subst e1 e3
    clear e2
    obtain ⟨oA, oc, hv⟩ := ho.shape
    rw [vstrs_len] at hv
    subst hv
    have HO := Lib.hid ho
    clear ho
    rcases hd : gs.drop k with _ | ⟨x, r⟩
    · have hk2 : k = gs.length := by have := drop_nil hd; omega
      rw [hd] at H
      subst hk2
      clear hd hac
      obtain rfl : out = ANS := H.out
      go_wp2
      go_ret
      exact ⟨_, rfl, strs_of_rd HO.out.rd, hbw⟩
    · obtain ⟨hlt, hx, hr⟩ := drop_consA hd
      obtain ⟨b, o, cv, rfl, hb, e0, e1, e2, hcv⟩ := hac k x hx
      replace e0 := (hbw.cell (p := ⟨b, o + k * 3, none⟩) hb).trans e0
      replace e1 := (hbw.cell (p := ⟨b, o + k * 3 + 1, none⟩) hb).trans e1
      replace e2 := (hbw.cell (p := ⟨b, o + k * 3 + 2, none⟩) hb).trans e2
      rw [hd, submitS_cons] at H
      rw [hd, condsN_cons] at hle
      have Hr := Lib.hid hr
      have hT := HT.out k x hx
      clear hd hr hx hac
      unfold str at e1
      obtain ⟨tg, tag, cs⟩ := x
      simp only at e0 e1 e2 hcv hT hle
      obtain ⟨cA, cc, rfl, -, -, -⟩ := id hcv
      have hba : Below w.heap.size w (wr.alloc (.cells #[.bool tg, .string ⟨tag.toArray⟩, .slice cA cs.length cc] 46)) := hbw.alloc hbw.size _
      have hca : Below wr.heap.size wr (wr.alloc (.cells #[.bool tg, .string ⟨tag.toArray⟩, .slice cA cs.length cc] 46)) := (Below.refl _ wr).alloc (Nat.le_refl _) _
      have k0 := Lib.hid (cell_new wr #[.bool tg, .string ⟨tag.toArray⟩, .slice cA cs.length cc] 46)
      have HCW := Lib.hid hcv
      have Hcv := Lib.hid (hcv.below hba (Nat.le_refl _))
      have HOa := Lib.hid (HO.out.alloc (.cells #[.bool tg, .string ⟨tag.toArray⟩, .slice cA cs.length cc] 46))
      clear hcv
      go_wp2_with fail
      generalize hwa : (wr.alloc (.cells #[.bool tg, .string ⟨tag.toArray⟩, .slice cA cs.length cc] 46)) = wa at *
      clear hwa
      generalize hbx : wr.heap.size = bx at *
      have hS0 : GS wa bx tg tag (.slice cA cs.length cc) wa.drew := ⟨k0.out 0, k0.out 1, k0.out 2, below_draws (Below.refl _ _) 1⟩
      have Hk := Lib.hid (fun (w1 w2 : World) (h : GS wa bx tg tag (.slice cA cs.length cc) w1) (hb : Below w1.heap.size w1 w2) => h.keep hb)
      have HOf := Lib.hid (fun (w1 : World) (h : GS wa bx tg tag (.slice cA cs.length cc) w1) => of_any tg tag (.slice cA cs.length cc) (.slice sA self.length sc) (.slice fA fs.length fc) self fs w1 ((HS'.out.below hba (Nat.le_refl _)).below h.2.2.2 (Nat.le_refl _)) ((HF.out.below hba (Nat.le_refl _)).below h.2.2.2 (Nat.le_refl _)) hT ((hE.below hba).below h.2.2.2))
      change Hid (submitS (if holdsG cs (factsS tg tag self fs) then addS out cs else out) r self fs = ANS) at H
      generalize factsS tg tag self fs = F at *
      have HHo := Lib.hid (fun (w1 : World) (pv tv : Value) (h : GS wa bx tg tag (.slice cA cs.length cc) w1) (htv : Strs w1 tv F.toks) => cholds_any tg tag (.slice cA cs.length cc) pv tv cs F w1 (Hcv.out.below h.2.2.2 (Nat.le_refl _)) htv)
      generalize holdsG cs F = x at *
      clear k0 hT
      go_region_held3 (fun w' => w'.cell? ⟨bx, 0, none⟩ = some (.bool tg) ∧ w'.cell? ⟨bx, 1, none⟩ = some (.string ⟨tag.toArray⟩) ∧ w'.cell? ⟨bx, 2, none⟩ = some (.slice cA cs.length cc) ∧ Below wa.heap.size wa w')
        (first | exact hS0 | exact Hk.out _ _ (by assumption) (by assumption))
        (first
          | (go_at_call 41; refine (HOf.out _ (by assumption)).mono ?_; rintro e w' ⟨pv, tv, rfl, hpv, htv, hb1⟩)
          | (go_at_call 40; refine (HHo.out _ _ _ (by assumption) htv).mono ?_; rintro e w'' ⟨rfl, hb2⟩))
      have hfin : GS wa bx tg tag (.slice cA cs.length cc) w'' := by assumption
      obtain ⟨-, -, hc2, hb3⟩ := hfin
      have HO3 := Lib.hid (HOa.out.below hb3)
      have Hcv3 := Lib.hid (Hcv.out.below hb3 (Nat.le_refl _))
      have hb4 := hba.trans (hb3.mono hba.size)
      clear hS0 Hk HOf HHo hpv htv hb1 hb2 hb3 Hcv HOa hba hca HO
      cases x
      · go_wp2
        go_roundw
        case rel => exact ⟨k + 1, out, by omega, by go_num, HO3.out, hb4, by rw [Hr.out]; exact H.out, by rw [Hr.out]; omega⟩
        case measure => simp [intOf]; omega
      · have H2 := Lib.hid (show submitS (addS out cs) r self fs = ANS from H.out)
        clear H
        simp only [Bool.not_true]
        go_wp2_with fail
        go_loopw [7, 28] (fun v i wi => ∃ m out2, m ≤ cs.length ∧ i = .int .i64 (m : Nat) ∧ Own 9 w.heap.size (vstrs out2) v wi ∧ Below w.heap.size w wi ∧ Hid (submitS (addS out2 (cs.drop m)) r self fs = ANS) ∧ out2.length + (cs.length - m) + condsN r ≤ 1000000000) (fun _ i _ => cs.length - (intOf i).toNat)
        case atStart => exact ⟨0, out, Nat.zero_le _, rfl, HO3.out, hb4, H2, by omega⟩
        case round =>
          obtain ⟨m, out2, hm, rfl, ho, hbi, HM, hle2⟩ := hrel
          clear H2 HO3 hb4
          obtain ⟨cA', cap3, hva3, _, hcm3, hac3⟩ := (HCW.out.below hbi (Nat.le_refl _)).at
          injection hva3 with e3 e4 e5
          subst e3 e5
          clear e4
          unfold maxLen at hcm3
          obtain ⟨oA2, oc2, hv2⟩ := ho.shape
          rw [vstrs_len] at hv2
          subst hv2
          have HO := Lib.hid ho
          clear ho
          rcases hd : cs.drop m with _ | ⟨c, q⟩
          · have hk2 : m = cs.length := by have := drop_nil hd; omega
            rw [hd] at HM
            subst hk2
            clear hd hac3
            have HM2 := Lib.hid (show submitS out2 r self fs = ANS from HM.out)
            clear HM
            go_wp2
            refine ⟨⟨k + 1, out2, by omega, by go_num, HO.out, hbi, by rw [Hr.out]; exact HM2.out, by rw [Hr.out]; omega⟩, ?_⟩
            simp [intOf]; omega
          · obtain ⟨hlt3, hx3, hr3⟩ := drop_consA hd
            obtain ⟨b3, o3, rfl, hb3, d0, d1, d2⟩ := hac3 m c hx3
            rw [hd, addS_cons] at HM
            have Hr3 := Lib.hid hr3
            clear hd hr3 hx3 hac3
            unfold str at d1 d2
            obtain ⟨neg, tok, etag⟩ := c
            simp only at d0 d1 d2 HM
            have hbj : Below w.heap.size w (wr.alloc (.cells #[.bool neg, .string ⟨tok.toArray⟩, .string ⟨etag.toArray⟩] 48)) := hbi.alloc hbi.size _
            have HO2 := Lib.hid (HO.out.alloc (.cells #[.bool neg, .string ⟨tok.toArray⟩, .string ⟨etag.toArray⟩] 48))
            have HCt := Lib.hid (scontains_any _ out2 tok _ (strs_of_rd HO2.out.rd))
            have hT : decide (tok = []) = tok.isEmpty := by cases tok <;> rfl
            rw [hT] at HM
            clear hT HO
            generalize hct : decide (tok ∈ out2) = ct at HM HCt
            clear hct
            cases ht : tok.isEmpty <;> cases neg <;> cases ct
            case false.false.false =>
              rw [ht] at HM
              have HM2 := Lib.hid (show submitS (addS (out2 ++ [tok]) q) r self fs = ANS from HM.out)
              have HBD := Lib.hid (show ((vstrs out2).length + 1) * 16 ≤ 140737488355328 by rw [vstrs_len]; omega)
              have hWB : w.heap.size ≤ (wr.alloc (.cells #[.bool false, .string ⟨tok.toArray⟩, .string ⟨etag.toArray⟩] 48)).heap.size := by have := hbi.size; simp; omega
              clear HM
              go_wp2_with (first
                | (refine HCt.out.mono ?_; rintro e w1 ⟨rfl, rfl⟩)
                | (at_builtin; go_must (refine wpList_appLitAt elemS rfl (.tmp 47) (.tmp 50) rfl w.heap.size (vstrs out2) #[.string ⟨tok.toArray⟩] _ rfl HO2.out 1 (wr.heap.size + 1) (by simp) rfl rfl (one1s _) HBD.out hWB ?_); intro v' w' hown' hb' hg'))
              refine ⟨⟨m + 1, out2 ++ [tok], by omega, by go_num, by rw [vstrs_app]; exact hown', hbj.trans hb', by rw [Hr3.out]; exact HM2.out, by simp; omega⟩, ?_⟩
              simp [intOf]; omega
            all_goals
              rw [ht] at HM
              have HM2 := Lib.hid (show submitS (addS out2 q) r self fs = ANS from HM.out)
              clear HM
              go_wp2_with (refine HCt.out.mono ?_; rintro e w1 ⟨rfl, rfl⟩)
              first
                | (go_roundw
                   case rel => exact ⟨m + 1, out2, by omega, by go_num, HO2.out, hbj, by rw [Hr3.out]; exact HM2.out, by omega⟩
                   case measure => simp [intOf]; omega)
                | (refine ⟨⟨m + 1, out2, by omega, by go_num, HO2.out, hbj, by rw [Hr3.out]; exact HM2.out, by omega⟩, ?_⟩; simp [intOf]; omega)
end Go.Proofs.YthfdhanhkanhhaaDoor

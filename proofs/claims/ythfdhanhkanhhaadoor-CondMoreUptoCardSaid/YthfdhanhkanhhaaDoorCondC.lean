/-
  The walks of cond.Holds and of the function that it hands on. Conditions: what the listed variables hold; a tag is at most a million bytes.
-/
import Derived.Test.YthfdhanhkanhhaaDoorCondB
import Derived.Deep.RegionHeld3
namespace Go.Proofs.YthfdhanhkanhhaaDoor
open Go.RowKit

/-- what a world must say of the group in block b, of self and facts in blocks p and q. -/
def HS (wa : World) (b p q : Nat) (tg : Bool) (tag : List UInt8) (cv sv fv : Value) (w : World) : Prop :=
  w.cell? ⟨b, 0, none⟩ = some (.bool tg) ∧ w.cell? ⟨b, 1, none⟩ = some (.string ⟨tag.toArray⟩) ∧ w.cell? ⟨b, 2, none⟩ = some cv ∧ w.cell? ⟨p, 0, none⟩ = some sv ∧ w.cell? ⟨q, 0, none⟩ = some fv ∧ Below wa.heap.size wa w
theorem HS.keep {wa w w' : World} {b p q : Nat} {tg : Bool} {tag : List UInt8} {cv sv fv : Value} (h : HS wa b p q tg tag cv sv fv w) (hb : Below w.heap.size w w') : HS wa b p q tg tag cv sv fv w' := by
  obtain ⟨h0, h1, h2, h3, h4, h5⟩ := h
  have k : ∀ {a : Addr} {v : Value}, w.cell? a = some v → w'.cell? a = some v := fun {a v} h => (hb.cell (World.block_lt_of_cell? w a h)).trans h
  exact ⟨k h0, k h1, k h2, k h3, k h4, h5.trans (hb.mono h5.size)⟩
set_option maxHeartbeats 1000000 in
set_option maxRecDepth 100000 in
set_option linter.unusedSimpArgs false in
theorem hclos_any (tg : Bool) (tag : List UInt8) (cs : List CondT) (cv sv fv : Value) (p q : Nat) (self : List (List UInt8)) (fs : List FactT) (w : World) (hc : Conds w cv cs) (hs : Strs w sv self) (hf : FactL w fv fs)
    (hp : w.cell? ⟨p, 0, none⟩ = some sv) (hq : w.cell? ⟨q, 0, none⟩ = some fv) (ht : tag.length ≤ 1048576) (hE : Env w) :
    Calls Tryd.prog 39 #[.agg #[.bool tg, .string ⟨tag.toArray⟩, cv], .pointer (some ⟨p, 0, none⟩), .pointer (some ⟨q, 0, none⟩)] w (Ret (.bool (holdsG cs (factsS tg tag self fs))) w) := by
  have HC := Lib.hid hc
  have HS' := Lib.hid hs
  have HF := Lib.hid hf
  obtain ⟨cA, cc, rfl, -, -, -⟩ := hc
  obtain ⟨sA, sc, rfl⟩ := strs_ne hs
  obtain ⟨fA, fc, rfl, -, -, -⟩ := hf
  clear hs
  have hA : Below w.heap.size w (w.alloc (.cells #[.bool tg, .string ⟨tag.toArray⟩, .slice cA cs.length cc] 46)) := (Below.refl _ w).alloc (Nat.le_refl _) _
  have k0 := cell_new w #[.bool tg, .string ⟨tag.toArray⟩, .slice cA cs.length cc] 46
  have hS0 : HS (w.alloc (.cells #[.bool tg, .string ⟨tag.toArray⟩, .slice cA cs.length cc] 46)) w.heap.size p q tg tag (.slice cA cs.length cc) (.slice sA self.length sc) (.slice fA fs.length fc) (w.alloc (.cells #[.bool tg, .string ⟨tag.toArray⟩, .slice cA cs.length cc] 46)).drew :=
    ⟨k0 0, k0 1, k0 2, cell_alloc hp _, cell_alloc hq _, below_draws (Below.refl _ _) 1⟩
  obtain ⟨b, hb⟩ : ∃ b, b = w.heap.size := ⟨_, rfl⟩
  go_enter Tryd.func39, Tryd.ntmps39
  go_wp2
  generalize (w.alloc (.cells #[.bool tg, .string ⟨tag.toArray⟩, .slice cA cs.length cc] 46)) = wa at *
  have Hk := Lib.hid (fun (w1 w2 : World) (h : HS wa w.heap.size p q tg tag (.slice cA cs.length cc) (.slice sA self.length sc) (.slice fA fs.length fc) w1) (hb : Below w1.heap.size w1 w2) => h.keep hb)
  have HOf := Lib.hid (fun (w1 : World) (h : HS wa w.heap.size p q tg tag (.slice cA cs.length cc) (.slice sA self.length sc) (.slice fA fs.length fc) w1) => of_any tg tag (.slice cA cs.length cc) (.slice sA self.length sc) (.slice fA fs.length fc) self fs w1 ((HS'.out.below hA (Nat.le_refl _)).below h.2.2.2.2.2 (Nat.le_refl _)) ((HF.out.below hA (Nat.le_refl _)).below h.2.2.2.2.2 (Nat.le_refl _)) ht ((hE.below hA).below h.2.2.2.2.2))
  generalize factsS tg tag self fs = F at *
  have HHo := Lib.hid (fun (w1 : World) (pv tv : Value) (h : HS wa w.heap.size p q tg tag (.slice cA cs.length cc) (.slice sA self.length sc) (.slice fA fs.length fc) w1) (htv : Strs w1 tv F.toks) => cholds_any tg tag (.slice cA cs.length cc) pv tv cs F w1 ((HC.out.below hA (Nat.le_refl _)).below h.2.2.2.2.2 (Nat.le_refl _)) htv)
  clear hb k0 hp hq
  go_region_held3 (fun w' => w'.cell? ⟨w.heap.size, 0, none⟩ = some (.bool tg) ∧ w'.cell? ⟨w.heap.size, 1, none⟩ = some (.string ⟨tag.toArray⟩) ∧ w'.cell? ⟨w.heap.size, 2, none⟩ = some (.slice cA cs.length cc) ∧ w'.cell? ⟨p, 0, none⟩ = some (.slice sA self.length sc) ∧ w'.cell? ⟨q, 0, none⟩ = some (.slice fA fs.length fc) ∧ Below wa.heap.size wa w')
    (first | exact hS0 | exact Hk.out _ _ (by assumption) (by assumption))
    (first
      | (go_at_call 41; refine (HOf.out _ (by assumption)).mono ?_; rintro e w' ⟨pv, tv, rfl, hpv, htv, hb1⟩)
      | (go_at_call 40; refine (HHo.out _ _ _ (by assumption) htv).mono ?_; rintro e w'' ⟨rfl, hb2⟩))
  have hfin : HS wa w.heap.size p q tg tag (.slice cA cs.length cc) (.slice sA self.length sc) (.slice fA fs.length fc) w'' := by assumption
  go_wp2
  go_ret
  exact ⟨rfl, hA.trans (hfin.2.2.2.2.2.mono hA.size)⟩
/-- the tags that stand in groups are at most a million bytes. -/
def Tags (gs : List GroupT) : Prop := ∀ (j : Nat) g, gs[j]? = some g → g.tag.length ≤ 1048576
theorem holdsS_cons (g : GroupT) (r : List GroupT) (self : List (List UInt8)) (fs : List FactT) : holdsS (g :: r) self fs = (groupS g self fs || holdsS r self fs) := rfl
set_option maxHeartbeats 1000000 in
set_option maxRecDepth 100000 in
set_option linter.unusedSimpArgs false in
theorem ifunc_any (gv sv fv : Value) (gs : List GroupT) (self : List (List UInt8)) (fs : List FactT) (p q : Nat) (w : World) (hg : Groups w gv gs) (hs : Strs w sv self) (hf : FactL w fv fs)
    (hp : w.cell? ⟨p, 0, none⟩ = some sv) (hq : w.cell? ⟨q, 0, none⟩ = some fv) (ht : Tags gs) (hE : Env w) :
    Calls Tryd.prog 60 #[gv, .func (.func 39) #[] #[.pointer (some ⟨p, 0, none⟩), .pointer (some ⟨q, 0, none⟩)]] w
      fun e w' => ∃ n : Int, e = .returned (.int .i64 n) ∧ decide (0 ≤ n) = holdsS gs self fs ∧ Below w.heap.size w w' := by
  have HG := Lib.hid hg
  have HT := Lib.hid ht
  obtain ⟨A, cap, rfl, hcap, hcm, -⟩ := hg
  unfold maxLen at hcm
  clear ht
  obtain ⟨ANS, hA⟩ : ∃ A, holdsS gs self fs = A := ⟨_, rfl⟩
  rw [hA]
  have HQ := Lib.hid (fun (wr : World) (hb : Below w.heap.size w wr) (tg : Bool) (tag : List UInt8) (cs : List CondT) (cv : Value) (hc : Conds wr cv cs) (ht : tag.length ≤ 1048576) =>
    hclos_any tg tag cs cv sv fv p q self fs wr hc (hs.below hb (Nat.le_refl _)) (hf.below hb (Nat.le_refl _)) ((hb.cell (World.block_lt_of_cell? w _ hp)).trans hp) ((hb.cell (World.block_lt_of_cell? w _ hq)).trans hq) ht (hE.below hb))
  clear hs hf hp hq hE
  go_enter Tryd.func60, Tryd.ntmps60
  go_wp2
  go_loopw [8] (fun i wr => ∃ k : Nat, k ≤ gs.length ∧ i = .int .i64 k ∧ Hid (holdsS (gs.drop k) self fs = ANS) ∧ Below w.heap.size w wr) (fun i _ => gs.length - (intOf i).toNat)
  case atStart => exact ⟨0, Nat.zero_le _, rfl, hA, Below.refl _ _⟩
  case round =>
    obtain ⟨k, hk, rfl, H, hbw⟩ := hrel
    clear hA
    obtain ⟨A', cap', hva, _, _, hac⟩ := (HG.out.below hbw (Nat.le_refl _)).at
    injection hva with e1 e2 e3
    subst e1 e3
    clear e2
    rcases hd : gs.drop k with _ | ⟨x, r⟩
    · have hk2 : k = gs.length := by have := drop_nil hd; omega
      rw [hd] at H
      subst hk2
      clear hd hac
      obtain rfl : false = ANS := H.out
      go_wp2
      go_ret
      exact ⟨_, rfl, by decide, hbw⟩
    · obtain ⟨hlt, hx, hr⟩ := drop_consA hd
      obtain ⟨b, o, cv, rfl, hb, e0, e1, e2, hcv⟩ := hac k x hx
      rw [hd, holdsS_cons] at H
      have Hr := Lib.hid hr
      have hT := HT.out k x hx
      clear hd hr hx hac
      unfold str at e1
      obtain ⟨tg, tag, cs⟩ := x
      simp only at e0 e1 e2 hcv hT
      have Hc := Lib.hid (HQ.out wr hbw tg tag cs cv hcv hT)
      change Hid ((holdsG cs (factsS tg tag self fs) || holdsS r self fs) = ANS) at H
      generalize holdsG cs (factsS tg tag self fs) = x at H Hc
      clear hT hcv
      go_wp2_with fail
      refine Hc.out.mono ?_
      rintro e w1 ⟨rfl, hb1⟩
      have hb2 := hbw.trans (hb1.mono hbw.size)
      cases x
      · have H2 := Lib.hid (show holdsS r self fs = ANS from H.out)
        go_wp2
        go_roundw
        case rel => exact ⟨k + 1, by omega, by go_num, by rw [Hr.out]; exact H2.out, hb2⟩
        case measure => simp [intOf]; omega
      · obtain rfl : true = ANS := H.out
        go_wp2
        go_ret
        exact ⟨_, rfl, by simp, hb2⟩
set_option maxHeartbeats 1000000 in
set_option maxRecDepth 100000 in
set_option linter.unusedSimpArgs false in
theorem cfunc_any (gv sv fv : Value) (gs : List GroupT) (self : List (List UInt8)) (fs : List FactT) (p q : Nat) (w : World) (hg : Groups w gv gs) (hs : Strs w sv self) (hf : FactL w fv fs)
    (hp : w.cell? ⟨p, 0, none⟩ = some sv) (hq : w.cell? ⟨q, 0, none⟩ = some fv) (ht : Tags gs) (hE : Env w) :
    Calls Tryd.prog 38 #[gv, .func (.func 39) #[] #[.pointer (some ⟨p, 0, none⟩), .pointer (some ⟨q, 0, none⟩)]] w (Ret (.bool (holdsS gs self fs)) w) := by
  have HI := Lib.hid (ifunc_any gv sv fv gs self fs p q w hg hs hf hp hq ht hE)
  clear hg hs hf hp hq ht hE
  go_enter Tryd.func38, Tryd.ntmps38
  go_wp2_with fail
  refine HI.out.mono ?_
  rintro e w1 ⟨n, rfl, hn, hb1⟩
  have Hn := Lib.hid hn
  clear hn HI
  go_wp2
  go_ret
  exact ⟨retb Hn.out, hb1⟩
set_option maxHeartbeats 1000000 in
set_option maxRecDepth 100000 in
set_option linter.unusedSimpArgs false in
theorem holds_any (gv sv fv : Value) (gs : List GroupT) (self : List (List UInt8)) (fs : List FactT) (w : World) (hg : Groups w gv gs) (hs : Strs w sv self) (hf : FactL w fv fs) (ht : Tags gs) (hE : Env w) :
    Calls Tryd.prog 19 #[gv, sv, fv] w (Ret (.bool (holdsS gs self fs)) w) := by
  have HG := Lib.hid hg
  have HS' := Lib.hid hs
  have HF := Lib.hid hf
  obtain ⟨sA, sc, rfl⟩ := strs_ne hs
  obtain ⟨fA, fc, rfl, -, -, -⟩ := hf
  have hA : Below w.heap.size w ((w.alloc (.cells #[.slice sA self.length sc] 23)).alloc (.cells #[.slice fA fs.length fc] 37)) := ((Below.refl _ w).alloc (Nat.le_refl _) _).alloc (by simp) _
  have k0 := cell_new w #[.slice sA self.length sc] 23 0
  have HC := Lib.hid (cfunc_any gv _ _ gs self fs w.heap.size (w.heap.size + 1) _ (HG.out.below hA (Nat.le_refl _)) (HS'.out.below hA (Nat.le_refl _)) (HF.out.below hA (Nat.le_refl _))
    (cell_alloc k0 _) (cell_new1 w _ #[.slice fA fs.length fc] 37 0) ht (hE.below hA))
  clear hg hs ht hE k0
  go_enter Tryd.func19, Tryd.ntmps19
  go_wp2_with fail
  refine HC.out.mono ?_
  rintro e w1 ⟨rfl, hb1⟩
  go_wp2
  go_ret
  exact ⟨rfl, hA.trans (hb1.mono hA.size)⟩
end Go.Proofs.YthfdhanhkanhhaaDoor

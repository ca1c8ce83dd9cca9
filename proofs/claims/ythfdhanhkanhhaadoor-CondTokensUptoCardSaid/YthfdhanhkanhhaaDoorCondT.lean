/-
  The walk of the law CondTokens: it returns true. Conditions: the package variables hold what the row lists; the header is at most a million bytes.
-/
import Derived.Test.YthfdhanhkanhhaaDoorCondG
import Derived.Test.YthfdhanhkanhhaaDoorCondM
namespace Go.Proofs.YthfdhanhkanhhaaDoor
open Go.RowKit

def anyTok (fs : List FactT) (t : List UInt8) : Bool := fs.any fun f => f.toks.any (· == t)
def anyAsk (gs : List GroupT) (t : List UInt8) : Bool := gs.any fun g => g.conds.any fun c => c.tok == t && !c.neg
theorem anyTok_of {fs : List FactT} {t : List UInt8} (h : KnownT fs t) : anyTok fs t = true := by
  obtain ⟨f, hf, ht⟩ := h
  exact List.any_eq_true.2 ⟨f, hf, List.any_eq_true.2 ⟨t, ht, by simp⟩⟩
theorem anyAsk_of {gs : List GroupT} {t : List UInt8} (h : AskedT gs t) : anyAsk gs t = true := by
  obtain ⟨g, hg, c, hc, h1, h2⟩ := h
  exact List.any_eq_true.2 ⟨g, hg, List.any_eq_true.2 ⟨c, hc, by simp [h1, h2]⟩⟩
set_option maxHeartbeats 4000000 in
set_option maxRecDepth 100000 in
set_option linter.unusedSimpArgs false in
theorem law_tokens (s : List UInt8) (sv fv : Value) (self : List (List UInt8)) (fs : List FactT) (w : World) (hs : Strs w sv self) (hf : FactL w fv fs) (hl : s.length ≤ 1048576) (hE : Env w) :
    Calls Tryd.prog 8 #[.string ⟨s.toArray⟩, sv, fv] w (Ret (.bool true) w) := by
  have HS' := Lib.hid hs
  have HF := Lib.hid hf
  obtain ⟨fA, fc, rfl, -, hfm, -⟩ := hf
  unfold maxLen at hfm
  clear hs
  have C1 := Lib.hid (fun w => cparse_any s w (by omega))
  have hsz : ∀ gs, headS s = some gs → (∀ g ∈ gs, g.tag.length ≤ s.length) ∧ condsN gs ≤ s.length := fun gs h => headS_size h
  generalize headS s = R at C1 hsz
  go_enter Tryd.func8, Tryd.ntmps8
  go_wp2_with fail
  refine (fixed16_any w hE).mono ?_
  rintro e w1 ⟨rfl, hb1⟩
  have hE1 := hE.below hb1
  rcases R with _ | gs
  · go_wp2_with fail
    refine (C1.out _).mono ?_
    rintro e w2 ⟨rfl, hb2⟩
    go_wp2
    go_ret
    exact ⟨rfl, hb1.trans (hb2.mono hb1.size)⟩
  · obtain ⟨hz1, hz2⟩ := hsz gs rfl
    have hT : Tags gs := fun j g hj => Nat.le_trans (hz1 g (List.mem_of_getElem? hj)) hl
    have hN : condsN gs ≤ 1000000000 := by omega
    have hmem := submit_mem self fs gs []
    have hnd := submit_nodup self fs gs [] List.nodup_nil
    clear hsz hz1 hz2
    go_wp2_with fail
    refine (C1.out _).mono ?_
    rintro e w2 ⟨gv, rfl, hg2, hb2⟩
    have hbb2 := hb1.trans (hb2.mono hb1.size)
    have H3 := Lib.hid (submitted_any gv sv (.slice fA fs.length fc) gs self fs w2 hg2 (HS'.out.below hbb2 (Nat.le_refl _)) (HF.out.below hbb2 (Nat.le_refl _)) hT hN (hE1.below hb2))
    have HH := Lib.hid (fun (wx : World) (hb : Below w2.heap.size w2 wx) => holds_any gv sv (.slice fA fs.length fc) gs self fs wx (hg2.below hb (Nat.le_refl _)) ((HS'.out.below hbb2 (Nat.le_refl _)).below hb (Nat.le_refl _)) ((HF.out.below hbb2 (Nat.le_refl _)).below hb (Nat.le_refl _)) hT ((hE1.below hb2).below hb))
    have G2 := Lib.hid hg2
    obtain ⟨gA, gc, rfl, -, hgm, -⟩ := hg2
    unfold maxLen at hgm
    clear C1 hE1 hb2 hN hT
    generalize submitS [] gs self fs = l at *
    go_wp2_with fail
    refine H3.out.mono ?_
    rintro e w3 ⟨lv, rfl, hlv, hb3⟩
    have L3 := Lib.hid hlv
    obtain ⟨lA, lc, rfl, hlc, hlm, -⟩ := hlv
    unfold maxLen at hlm
    have hbb3 := hbb2.trans (hb3.mono hbb2.size)
    have key : ∀ w4, Below w3.heap.size w3 w4 → FactL w4 (.slice fA fs.length fc) fs ∧ Groups w4 (.slice gA gs.length gc) gs ∧ Strs w4 (.slice lA l.length lc) l := fun w4 hb4 =>
      ⟨(HF.out.below hbb3 (Nat.le_refl _)).below hb4 (Nat.le_refl _), (G2.out.below hb3 (Nat.le_refl _)).below hb4 (Nat.le_refl _), L3.out.below hb4 (Nat.le_refl _)⟩
    have Key := Lib.hid key
    have hKn : ∀ t ∈ l, anyTok fs t = true ∧ anyAsk gs t = true ∧ holdsS gs self fs = true := fun t ht => by
      rcases hmem t ht with h | ⟨h1, h2, h3⟩
      · cases h
      · exact ⟨anyTok_of h2, anyAsk_of h1, h3⟩
    have HK := Lib.hid hKn
    have HND := Lib.hid hnd
    clear H3 key hKn hmem hnd
    by_cases hl0 : l.length = 0
    · have hz : (l.length : Int) = 0 := by omega
      have hz1 : ¬ ((0 : Int) < l.length) := by omega
      go_wp2_with fail
      go_loop [10] (fun i => i = .int .i64 0) (fun _ => 0)
      case atStart => rfl
      case round =>
        subst hrel
        go_wp2
        go_ret
        exact ⟨rfl, hbb3⟩
    · have hpos : (0 : Int) < l.length := by omega
      have hh := HH.out w3 hb3
      rw [show holdsS gs self fs = true from by
        rcases l with _ | ⟨t0, l'⟩
        · exact absurd rfl hl0
        · exact (HK.out t0 (by simp)).2.2] at hh
      have Hh := Lib.hid hh
      clear hh
      go_wp2_with fail
      refine Hh.out.mono ?_
      rintro e w4 ⟨rfl, hb4⟩
      clear Hh
      go_wp2_with fail
      go_loopw [10] (fun i wr => ∃ k : Nat, k ≤ l.length ∧ i = .int .i64 k ∧ Below w3.heap.size w3 wr) (fun i _ => l.length - (intOf i).toNat)
      case atStart => exact ⟨0, Nat.zero_le _, rfl, hb4⟩
      case round =>
        obtain ⟨k, hk, rfl, hbw⟩ := hrel
        rcases Nat.lt_or_ge k l.length with hlt | hge
        · obtain ⟨t, ht⟩ : ∃ t, l[k]? = some t := ⟨_, List.getElem?_eq_getElem hlt⟩
          have hkn := HK.out t (List.mem_of_getElem? ht)
          obtain ⟨lA', lc', hva, _, _, hlc2⟩ := L3.out
          injection hva with e1 e2 e3
          subst e1 e3
          clear e2
          obtain ⟨lb, lo, rfl, hlb, lcell0⟩ := hlc2 k t ht
          have lcell := (hbw.cell (p := ⟨lb, lo + k, none⟩) hlb).trans lcell0
          replace lcell0 := Lib.hid lcell0
          have K1 := Lib.hid hkn.1
          have K2 := Lib.hid hkn.2.1
          have Hlc2 := Lib.hid hlc2
          have Ht := Lib.hid ht
          clear hkn hlc2 ht
          have i0 : (0 : Int) ≤ (k : Int) := by omega
          have i1 : (k : Int) < (l.length : Int) := by omega
          go_wp2_with fail
          go_loopw [13, 11] (fun i kn wx => ∃ (j : Nat) (b : Bool), j ≤ fs.length ∧ i = .int .i64 j ∧ kn = .bool b ∧ Below wr.heap.size wr wx ∧ Hid ((b || anyTok (fs.drop j) t) = true)) (fun i _ _ => fs.length - (intOf i).toNat)
          case atStart => exact ⟨0, false, Nat.zero_le _, rfl, rfl, Below.refl _ _, K1⟩
          case round =>
            obtain ⟨j, b, hj, rfl, rfl, hbx, H⟩ := hrel
            have hb3x := hbw.trans (hbx.mono hbw.size)
            clear K1
            obtain ⟨fA', fc', hvf, _, _, hfac⟩ := (Key.out wr hb3x).1.at
            injection hvf with g1 g2 g3
            subst g1 g3
            clear g2
            rcases hd : fs.drop j with _ | ⟨f, r⟩
            · have hj2 : j = fs.length := by have := drop_nil hd; omega
              rw [hd] at H
              have hbt : b = true := by simpa [anyTok] using H.out
              subst hj2 hbt
              clear hd hfac H
              go_wp2_with fail
              clear hbx
              go_loopw [15, 12] (fun i kn wx => ∃ (j : Nat) (b : Bool), j ≤ gs.length ∧ i = .int .i64 j ∧ kn = .bool b ∧ Below w3.heap.size w3 wx ∧ Hid ((b || anyAsk (gs.drop j) t) = true)) (fun i _ _ => gs.length - (intOf i).toNat)
              case atStart => exact ⟨0, false, Nat.zero_le _, rfl, rfl, hb3x, K2⟩
              case round =>
                obtain ⟨j, b, hj, rfl, rfl, hbx, H⟩ := hrel
                clear K2 hb3x
                obtain ⟨gA', gc', hvg, _, _, hgac⟩ := (Key.out wr hbx).2.1.at
                injection hvg with g1 g2 g3
                subst g1 g3
                clear g2
                have lcx := (hbx.cell (p := ⟨lb, lo + k, none⟩) hlb).trans lcell0.out
                rcases hd : gs.drop j with _ | ⟨g, r⟩
                · have hj2 : j = gs.length := by have := drop_nil hd; omega
                  rw [hd] at H
                  have hbt : b = true := by simpa [anyAsk] using H.out
                  subst hj2 hbt
                  clear hd hgac H
                  go_wp2_with fail
                  go_loopw [17] (fun i wx => ∃ m : Nat, m ≤ k ∧ i = .int .i64 m ∧ Below w3.heap.size w3 wx) (fun i _ => k - (intOf i).toNat)
                  case atStart => exact ⟨0, Nat.zero_le _, rfl, hbx⟩
                  case round =>
                    obtain ⟨m, hm, rfl, hby⟩ := hrel
                    have lcy := (hby.cell (p := ⟨lb, lo + k, none⟩) hlb).trans lcell0.out
                    rcases Nat.lt_or_ge m k with hmk | hmk
                    · obtain ⟨y, hy⟩ : ∃ y, l[m]? = some y := ⟨_, List.getElem?_eq_getElem (by omega)⟩
                      obtain ⟨yb, yo, he, hyb, yc⟩ := Hlc2.out m y hy
                      injection he with he
                      injection he with he1 he2 _
                      subst he1 he2
                      have yc' := (hby.cell (p := ⟨lb, lo + m, none⟩) hyb).trans yc
                      have hne : (y == t) = false := by
                        rw [beq_eq_false_iff_ne]
                        intro h
                        subst h
                        have := (List.getElem?_inj (by omega) HND.out).1 (hy.trans Ht.out.symm)
                        omega
                      have m0 : (0 : Int) ≤ (m : Int) := by omega
                      have m1 : (m : Int) < (k : Int) := by omega
                      have m2 : (m : Int) < (l.length : Int) := by omega
                      clear yc hy lcx
                      go_wp2
                      go_quiet (fail)
                      go_wp2
                      go_roundw
                      case rel => exact ⟨m + 1, by omega, by go_num, below_draws hby _⟩
                      case measure => simp [intOf]; omega
                    · have hm2 : m = k := by omega
                      subst hm2
                      go_wp2
                      refine ⟨⟨m + 1, by omega, by go_num, hby⟩, ?_⟩
                      simp [intOf]; omega
                · obtain ⟨hltj, hx, hr⟩ := drop_consA hd
                  obtain ⟨gb, go, cv, rfl, hgb, -, -, c2, hcv⟩ := hgac j g hx
                  have Hcv := Lib.hid hcv
                  obtain ⟨cA, cc, rfl, hcl, hcm, -⟩ := hcv
                  unfold maxLen at hcm
                  have hcn : g.conds.length ≤ 9223372036854775807 := by omega
                  rw [hd] at H
                  have Hr := Lib.hid hr
                  have H0 := Lib.hid (show (b || ((g.conds.drop 0).any (fun c => c.tok == t && !c.neg) || anyAsk r t)) = true from H.out)
                  have j0 : (0 : Int) ≤ (j : Int) := by omega
                  have j1 : (j : Int) < (gs.length : Int) := by omega
                  clear hd hgac hr hx H
                  go_wp2_with fail
                  go_loopw [16, 12] (fun i kn wx => ∃ (m : Nat) (b : Bool), m ≤ g.conds.length ∧ i = .int .i64 m ∧ kn = .bool b ∧ Below wr.heap.size wr wx ∧ Hid ((b || ((g.conds.drop m).any (fun c => c.tok == t && !c.neg) || anyAsk r t)) = true)) (fun i _ _ => g.conds.length - (intOf i).toNat)
                  case atStart => exact ⟨0, b, Nat.zero_le _, rfl, rfl, Below.refl _ _, H0⟩
                  case round =>
                    obtain ⟨m, b, hm, rfl, rfl, hby, H⟩ := hrel
                    clear H0
                    have c2y := (hby.cell (p := ⟨gb, go + j * 3 + 2, none⟩) hgb).trans c2
                    have lcy := (hby.cell (p := ⟨lb, lo + k, none⟩) (World.block_lt_of_cell? _ _ lcx)).trans lcx
                    obtain ⟨cA', cc', hvc, _, _, hcac⟩ := (Hcv.out.below hby (Nat.le_refl _)).at
                    injection hvc with g1 g2 g3
                    subst g1 g3
                    clear g2
                    rcases hd : g.conds.drop m with _ | ⟨x, q⟩
                    · have hm2 : m = g.conds.length := by have := drop_nil hd; omega
                      rw [hd] at H
                      subst hm2
                      clear hd hcac
                      have hbz := hbx.trans (hby.mono hbx.size)
                      have H1 := Lib.hid (show (b || anyAsk r t) = true from H.out)
                      clear H
                      go_wp2
                      refine ⟨⟨j + 1, b, by omega, by go_num, rfl, hbz, by rw [Hr.out]; exact H1.out⟩, ?_⟩
                      simp [intOf]; omega
                    · obtain ⟨hltm, hx, hq⟩ := drop_consA hd
                      obtain ⟨xb, xo, rfl, hxb, x0, x1, -⟩ := hcac m x hx
                      obtain ⟨neg, tok, etag⟩ := x
                      unfold str at x1
                      simp only at x0 x1
                      rw [hd, List.any_cons] at H
                      have Hq := Lib.hid hq
                      clear hd hx hq hcac
                      have m0 : (0 : Int) ≤ (m : Int) := by omega
                      have m1 : (m : Int) < (g.conds.length : Int) := by omega
                      cases b
                      · by_cases hxt : tok = t
                        · subst hxt
                          have hxx : (tok == tok) = true := by simp
                          cases neg
                          · clear H
                            go_wp2
                            go_quiet (fail)
                            go_wp2
                            refine ⟨⟨m + 1, true, by omega, by go_num, rfl, below_draws hby _, Lib.hid (Bool.true_or _)⟩, ?_⟩
                            simp [intOf]; omega
                          · have H1 := Lib.hid (show (false || (q.any (fun c => c.tok == tok && !c.neg) || anyAsk r tok)) = true by
                              have := H.out
                              simpa using this)
                            clear H
                            go_wp2
                            go_quiet (fail)
                            go_wp2
                            refine ⟨⟨m + 1, false, by omega, by go_num, rfl, below_draws hby _, by rw [Hq.out]; exact H1.out⟩, ?_⟩
                            simp [intOf]; omega
                        · have hx2 : (tok == t) = false := by simpa using hxt
                          have H1 := Lib.hid (show (false || (q.any (fun c => c.tok == t && !c.neg) || anyAsk r t)) = true by
                            have := H.out
                            simpa [hx2] using this)
                          clear H hxt
                          go_wp2
                          go_quiet (fail)
                          go_wp2
                          refine ⟨⟨m + 1, false, by omega, by go_num, rfl, below_draws hby _, by rw [Hq.out]; exact H1.out⟩, ?_⟩
                          simp [intOf]; omega
                      · clear H
                        go_wp2
                        go_quiet (fail)
                        go_wp2
                        refine ⟨⟨m + 1, true, by omega, by go_num, rfl, below_draws hby _, Lib.hid (Bool.true_or _)⟩, ?_⟩
                        simp [intOf]; omega
            · obtain ⟨hltj, hx, hr⟩ := drop_consA hd
              obtain ⟨fb, fo, pv, tv, rfl, hfb, -, -, c2, -, htv⟩ := hfac j f hx
              obtain ⟨tA, tc, rfl, htl, htm, htc⟩ := htv
              unfold maxLen at htm
              have htn : f.toks.length ≤ 9223372036854775807 := by omega
              rw [hd] at H
              have Hr := Lib.hid hr
              have Htc := Lib.hid htc
              have lcx := (hbx.cell (p := ⟨lb, lo + k, none⟩) (World.block_lt_of_cell? _ _ lcell)).trans lcell
              have H0 := Lib.hid (show (b || ((f.toks.drop 0).any (· == t) || anyTok r t)) = true from H.out)
              have j0 : (0 : Int) ≤ (j : Int) := by omega
              have j1 : (j : Int) < (fs.length : Int) := by omega
              clear hd hfac hr hx H htc
              go_wp2_with fail
              go_loopw [14, 11] (fun i kn wx => ∃ (m : Nat) (b : Bool), m ≤ f.toks.length ∧ i = .int .i64 m ∧ kn = .bool b ∧ Below wr.heap.size wr wx ∧ Hid ((b || ((f.toks.drop m).any (· == t) || anyTok r t)) = true)) (fun i _ _ => f.toks.length - (intOf i).toNat)
              case atStart => exact ⟨0, b, Nat.zero_le _, rfl, rfl, Below.refl _ _, H0⟩
              case round =>
                obtain ⟨m, b, hm, rfl, rfl, hby, H⟩ := hrel
                clear H0
                have c2y := (hby.cell (p := ⟨fb, fo + j * 3 + 2, none⟩) hfb).trans c2
                have lcy := (hby.cell (p := ⟨lb, lo + k, none⟩) (World.block_lt_of_cell? _ _ lcx)).trans lcx
                rcases hd : f.toks.drop m with _ | ⟨x, q⟩
                · have hm2 : m = f.toks.length := by have := drop_nil hd; omega
                  rw [hd] at H
                  subst hm2
                  clear hd
                  have hbz := hbx.trans (hby.mono hbx.size)
                  have H1 := Lib.hid (show (b || anyTok r t) = true from H.out)
                  clear H
                  go_wp2
                  refine ⟨⟨j + 1, b, by omega, by go_num, rfl, hbz, by rw [Hr.out]; exact H1.out⟩, ?_⟩
                  simp [intOf]; omega
                · obtain ⟨hltm, hx, hq⟩ := drop_consA hd
                  obtain ⟨xb, xo, rfl, hxb, xc⟩ := Htc.out m x hx
                  have xcy := (hby.cell (p := ⟨xb, xo + m, none⟩) hxb).trans xc
                  rw [hd] at H
                  have Hq := Lib.hid hq
                  clear hd hx hq xc
                  have m0 : (0 : Int) ≤ (m : Int) := by omega
                  have m1 : (m : Int) < (f.toks.length : Int) := by omega
                  cases b
                  · by_cases hxt : x = t
                    · subst hxt
                      have hxx : (x == x) = true := by simp
                      clear H
                      go_wp2
                      go_quiet (fail)
                      go_wp2
                      refine ⟨⟨m + 1, true, by omega, by go_num, rfl, below_draws hby _, Lib.hid (Bool.true_or _)⟩, ?_⟩
                      simp [intOf]; omega
                    · have H1 := Lib.hid (show (false || (q.any (· == t) || anyTok r t)) = true by
                        have := H.out
                        rw [List.any_cons] at this
                        have hx2 : (x == t) = false := by simpa using hxt
                        simpa [hx2] using this)
                      have hx2 : (x == t) = false := by simpa using hxt
                      clear H hxt
                      go_wp2
                      go_quiet (fail)
                      go_wp2
                      refine ⟨⟨m + 1, false, by omega, by go_num, rfl, below_draws hby _, by rw [Hq.out]; exact H1.out⟩, ?_⟩
                      simp [intOf]; omega
                  · clear H
                    go_wp2
                    go_quiet (fail)
                    go_wp2
                    refine ⟨⟨m + 1, true, by omega, by go_num, rfl, below_draws hby _, Lib.hid (Bool.true_or _)⟩, ?_⟩
                    simp [intOf]; omega
        · have hk2 : k = l.length := by omega
          subst hk2
          go_wp2
          go_ret
          exact ⟨rfl, hbb3.trans (hbw.mono hbb3.size)⟩
end Go.Proofs.YthfdhanhkanhhaaDoor

import Derived.Test.YtjkiehmjffgnlaaGreatDoorXmlZ17
import Derived.Test.YtjkiehmjffgnlaaGreatDoorXmlZ10
import Derived.Test.YtjkiehmjffgnlaaGreatDoorXmlZ6
import Derived.Test.YtjkiehmjffgnlaaGreatDoorXmlZ4
import Derived.Test.YtjkiehmjffgnlaaGreatDoorXmlZ5
import Derived.Test.YtjkiehmjffgnlaaGreatDoorXmlZ12
namespace Go.Proofs.YtjkiehmjffgnlaaGreatDoor
set_option linter.unusedVariables false
set_option linter.unusedSimpArgs false
open Go.RowKit

def RpP (P : Nat → Prop) (b : Nat) (ps : Pairs) (s : List UInt8) (w : World) (e : Ending) (w' : World) : Prop := e = .returned (.string ⟨(repP ps s).toArray⟩) ∧ w.grownBy w' (some b) ∧ Bt (orNew P w) w' b ps
set_option maxHeartbeats 1600000 in
set_option maxRecDepth 100000 in
set_option linter.unusedSimpArgs false in
theorem xrepl_any' (P : Nat → Prop) (ps : Pairs) (hps : WideP ps) (b : Nat) (s : List UInt8) (w : World) (h : BxP P w b ps) (hs : s.length ≤ 1000000000) : Calls Tryz.prog 94 #[.pointer (some ⟨b, 0, none⟩), .string ⟨s.toArray⟩] w (RpP P b ps s w) := by
  have HO := Lib.hid (once_words P ps hps b w h)
  have hmf : ∀ (fn : Fn) (first cap : Array Value) (w : World), (Instr.makeFunc fn first cap).run Tryz.prog w = .ok (.func fn first cap) w := fun _ _ _ _ => rfl
  have hlt := h.lt
  have HRp := Lib.hid (fun (g : Nat) (Q : Nat → Prop) w' (ht : TbP Q w' g ps) => xbsReplace ps hps Q g s w' ht hs)
  obtain ⟨E, hEE⟩ : ∃ E, E = RpP P b ps s w := ⟨_, rfl⟩
  rw [← hEE]
  have HEE := Lib.hid hEE
  clear hEE h
  go_enter Tryz.func94, Tryz.ntmps94
  go_wp2_with fail
  refine HO.out.mono ?_
  rintro e w1 ⟨rfl, hg1, hbt⟩
  have HBT := Lib.hid hbt
  have HG1 := Lib.hid hg1
  obtain ⟨hob, g, hb, hne, ht⟩ := hbt
  have d3 := xat hb 3
  unfold bxCs at d3
  simp only [List.getElem?_toArray, List.getElem?_cons_zero, List.getElem?_cons_succ] at d3
  have HT := Lib.hid ht
  clear hg1 hb ht hob HO
  go_wp2_with fail
  refine (HRp.out g _ w1 HT.out).mono ?_
  rintro e w2 ⟨rfl, hb2⟩
  have HB2 := Lib.hid hb2
  clear hb2
  go_wp2
  rw [HEE.out]
  exact ⟨rfl, grown_trans HG1.out (Below.toGrown HB2.out _), HBT.out.move (Moves.below HB2.out fun _ hk _ => hk)⟩
/-- of what was there only the builder, its row and the box have changed. -/
structure BFx (b : Nat) (r r' : Option Nat) (bt : Nat) (w w' : World) : Prop where
  os : w'.os = w.os
  tape : w'.tape = w.tape
  output : w'.output = w.output
  size : w.heap.size ≤ w'.heap.size
  block : ∀ k, k < w.heap.size → k ≠ b → some k ≠ r → k ≠ bt → w'.heap[k]? = w.heap[k]?
  row : r' = r ∨ ∃ k, r' = some k ∧ w.heap.size ≤ k
def offX (b bx : Nat) (r : Option Nat) (k : Nat) : Prop := offB b r k ∧ k ≠ bx
theorem BFr.movesX {b bx : Nat} {r r' : Option Nat} {w w' : World} (h : BFr b r r' w w') : Moves (offX b bx r) (offX b bx r') w w' := ⟨h.size, fun k hk hlt => ⟨⟨(h.moves.block k hk.1 hlt).1, hk.2⟩, (h.moves.block k hk.1 hlt).2⟩⟩
def RwP (B b bx : Nat) (r : Option Nat) (l : List UInt8) (bt : Nat) (ps : Pairs) (w : World) (e : Ending) (w' : World) : Prop := (∃ n er, e = .returned (.tuple #[n, er])) ∧ ∃ r', BldR B b r' l w' ∧ Bt (offX b bx r') w' bt ps ∧ BFx b r r' bt w w'
set_option maxHeartbeats 1600000 in
set_option maxRecDepth 100000 in
set_option linter.unusedSimpArgs false in
theorem xreplW_any (ps : Pairs) (hps : WideP ps) (B b bx : Nat) (r : Option Nat) (l s : List UInt8) (bt : Nat) (w : World) (hb : BldR B b r l w) (h : BxP (offX b bx r) w bt ps) (hx : bx < w.heap.size) (hs : s.length ≤ 1000000000) (hl : l.length ≤ 100000000000000) :
    Calls Tryz.prog 93 #[.pointer (some ⟨bt, 0, none⟩), .iface 115 (.pointer (some ⟨b, 0, none⟩)), .string ⟨s.toArray⟩] w (RwP B b bx r (l ++ repP ps s) bt ps w) := by
  have HO := Lib.hid (once_words _ ps hps bt w h)
  have hmf : ∀ (fn : Fn) (first cap : Array Value) (w : World), (Instr.makeFunc fn first cap).run Tryz.prog w = .ok (.func fn first cap) w := fun _ _ _ _ => rfl
  have hlt := h.lt
  have hblt := hb.lt.2
  have hrlt := hb.row_lt
  have hoff := h.1.1
  have HBd := Lib.hid hb
  have HWr := Lib.hid (fun (g : Nat) w' (hb : BldR B b r l w') (ht : TbP (offB b r) w' g ps) => xbsWrite ps hps g B b r l s w' hb ht hs hl)
  obtain ⟨E, hEE⟩ : ∃ E, E = RwP B b bx r (l ++ repP ps s) bt ps w := ⟨_, rfl⟩
  rw [← hEE]
  have HEE := Lib.hid hEE
  clear hEE h hb
  go_enter Tryz.func93, Tryz.ntmps93
  go_wp2_with fail
  refine HO.out.mono ?_
  rintro e w1 ⟨rfl, hg1, hbt⟩
  have hm : Moves (orNew (offX b bx r) w) (offX b bx r) w1 w1 := Moves.same w1 fun k hk _ => hk.elim id fun h => ⟨⟨by omega, fun e => by have := (hrlt k e.symm).2; omega⟩, by omega⟩
  have hbt2 : Bt (offX b bx r) w1 bt ps := hbt.move hm
  have HBT := Lib.hid hbt2
  have HBl := Lib.hid (HBd.out.kept hg1.size (hg1.block b hblt (by intro e; injection e with e; exact hoff.1 e.symm)) (fun k hk => hg1.block k (hrlt k hk).2 (by intro e; exact hoff.2 (e.symm.trans hk.symm))))
  have HG1 := Lib.hid hg1
  obtain ⟨hob, g, hb, hne, ht⟩ := hbt2
  have d3 := xat hb 3
  unfold bxCs at d3
  simp only [List.getElem?_toArray, List.getElem?_cons_zero, List.getElem?_cons_succ] at d3
  have HT := Lib.hid (ht.move (Moves.same w1 fun k hk _ => hk.1) : TbP (offB b r) w1 g ps)
  have HR := Lib.hid hrlt
  clear hg1 hb ht hob HO hbt hm hrlt
  go_wp2_with fail
  refine (HWr.out g w1 HBl.out HT.out).mono ?_
  rintro e w2 ⟨⟨n, er, rfl⟩, r', hbl2, hfr⟩
  have HB2 := Lib.hid hbl2
  have HF2 := Lib.hid hfr
  clear hbl2 hfr
  go_wp2
  rw [HEE.out]
  have hf := HF2.out
  have hg := HG1.out
  refine ⟨⟨_, _, rfl⟩, r', HB2.out, HBT.out.move hf.movesX, ⟨hf.os.trans hg.os, hf.tape.trans hg.tape, hf.output.trans hg.output, Nat.le_trans hg.size hf.size, fun k hk k1 k2 k3 => ?_, ?_⟩⟩
  · exact (hf.block k (Nat.lt_of_lt_of_le hk hg.size) k1 k2).trans (hg.block k hk (by intro e; injection e with e; exact k3 e))
  · rcases hf.row with h | ⟨j, hj, hs⟩
    · exact .inl h
    · exact .inr ⟨j, hj, Nat.le_trans hg.size hs⟩
def wordsV (ps : Pairs) : List Value := ps.flatMap fun p => [.string ⟨#[p.1]⟩, .string ⟨p.2.toArray⟩]
theorem wordsV_len (ps : Pairs) : (wordsV ps).length = 2 * ps.length := by
  induction ps with
  | nil => rfl
  | cons p r ih => unfold wordsV at ih ⊢; rw [List.flatMap_cons, List.length_append, ih]; simp; omega
theorem wordsV_at : ∀ (ps : Pairs) (j : Nat) (p : UInt8 × List UInt8), ps[j]? = some p → (wordsV ps)[2 * j]? = some (.string ⟨#[p.1]⟩) ∧ (wordsV ps)[2 * j + 1]? = some (.string ⟨p.2.toArray⟩)
  | [], j, p, h => by simp at h
  | q :: r, 0, p, h => by
    simp at h
    subst h
    exact ⟨rfl, rfl⟩
  | q :: r, j + 1, p, h => by
    have ih := wordsV_at r j p (by simpa using h)
    have e : wordsV (q :: r) = .string ⟨#[q.1]⟩ :: .string ⟨q.2.toArray⟩ :: wordsV r := rfl
    rw [e, show 2 * (j + 1) = 2 * j + 1 + 1 by omega, show 2 * j + 1 + 1 + 1 = (2 * j + 1) + 1 + 1 by omega]
    exact ih
theorem wordsV_one (ps : Pairs) : ∀ u ∈ wordsV ps, u.oneCell' = true := by
  intro u hu
  unfold wordsV at hu
  obtain ⟨p, -, hu⟩ := List.mem_flatMap.1 hu
  simp only [List.mem_cons, List.not_mem_nil, or_false] at hu
  rcases hu with rfl | rfl <;> rfl
def NwP (ps : Pairs) (w : World) (e : Ending) (w' : World) : Prop := ∃ b, e = .returned (.pointer (some ⟨b, 0, none⟩)) ∧ w.heap.size ≤ b ∧ Below w.heap.size w w' ∧ BxP (w.heap.size ≤ ·) w' b ps
set_option maxHeartbeats 1600000 in
set_option maxRecDepth 100000 in
set_option linter.unusedSimpArgs false in
theorem xnewW (ps : Pairs) (hps : WideP ps) (A : Option Addr) (n c : Nat) (w : World) (hn : n = 2 * ps.length) (hr : RdL w (.slice A n c) (wordsV ps)) :
    Calls Tryz.prog 66 #[.slice A n c] w (NwP ps w) := by
  obtain ⟨E, hEE⟩ : ∃ E, E = NwP ps w := ⟨_, rfl⟩
  rw [← hEE]
  have HEE := Lib.hid hEE
  have HR := Lib.hid hr
  have hfew := hps.good.few
  have HBD := Lib.hid (show (([] : List Value).length + (wordsV ps).length) * 16 ≤ 140737488355328 by rw [wordsV_len]; simp; omega)
  have HP := Lib.hid (show (wordsV ps).length = n by rw [wordsV_len, hn])
  have hodd : (n : Int) % 2 = 0 := by omega
  have hodd2 : ((n : Int) % 2 == 1) = false := by rw [beq_eq_false_iff_ne]; omega
  have hpos : 0 < (wordsV ps).length := by rw [wordsV_len]; have := hps.many; omega
  have HN := Lib.hid hn
  clear hEE hr hn hps
  go_enter Tryz.func66, Tryz.ntmps66
  go_wp2_with (at_builtin; go_must (refine wpList_app elemS rfl (.const (.slice none 0 0)) (.tmp 8) rfl w.heap.size [] (wordsV ps) _ _ rfl (Own.nil _ _ _) rfl HR.out (wordsV_one ps) HBD.out (Nat.le_refl _) ?_); intro v' w' ho hb hg; obtain ⟨q, cap, hv, hq, hqlt, hc1, hc2, hcell⟩ := own_form ho (by rw [List.nil_append]; exact hpos); rw [List.nil_append, HP.out] at hv hc1; subst hv)
  rw [HEE.out]
  rw [List.nil_append] at hcell
  have hbl : Below w.heap.size w (w'.alloc (.cells #[.int .u32 0, .int .i32 0, .int .u32 0, .nilIface, .slice (some ⟨q, 0, none⟩) n cap] 163 (0, 0))) := hb.alloc hb.size _
  refine ⟨w'.heap.size, rfl, hb.size, hbl, hb.size, .inl ⟨q, cap, by rw [← HN.out]; exact heap_alloc_new w' _, by rw [← HN.out]; exact hc1, hc2, by omega, hq, by rw [World.size_alloc]; omega, fun j p hj => ?_⟩⟩
  obtain ⟨a1, a2⟩ := wordsV_at ps j p hj
  exact ⟨cell_alloc (hcell _ _ a1) _, cell_alloc (hcell _ _ a2) _⟩
end Go.Proofs.YtjkiehmjffgnlaaGreatDoor
namespace Go.Proofs.YtjkiehmjffgnlaaGreatDoor
set_option linter.unusedVariables false
set_option linter.unusedSimpArgs false
open Go.RowKit

theorem allL_step {l : List UInt8} (hne : l ≠ []) : allL l.length l = (letC (Lib.decodeL l).1 && allL (l.drop (Lib.decodeL l).2).length (l.drop (Lib.decodeL l).2)) := by
  have hw := Lib.decodeL_width l
  have hpos := List.length_pos_iff.2 hne
  obtain ⟨n, hn⟩ : ∃ n, l.length = n + 1 := ⟨l.length - 1, by omega⟩
  rw [hn]
  conv => lhs; unfold allL
  rw [if_neg hne, allL_fuel n (l.drop (Lib.decodeL l).2).length _ (by rw [List.length_drop]; omega) (Nat.le_refl _)]
set_option maxHeartbeats 4000000 in
set_option maxRecDepth 100000 in
set_option linter.unusedSimpArgs false in
theorem xletters_any (l : List UInt8) (w : World) (hs : l.length ≤ 1000000000) (hE : XEnv w) : Calls Tryz.prog 57 #[.string ⟨l.toArray⟩] w (Ret (.bool (lettersX l)) w) := by
  obtain ⟨E, hEE⟩ : ∃ E, E = Ret (.bool (lettersX l)) w := ⟨_, rfl⟩
  rw [← hEE]
  have HEE := Lib.hid hEE
  have HV := Lib.hid (fun w1 (hb : Below w.heap.size w w1) => validString_any l w1 (by unfold maxLen; omega) (hE.below hb).env)
  have HLX := Lib.hid (show lettersX l = (allL l.length l && Lib.validD l) from rfl)
  clear hEE hE
  go_enter Tryz.func57, Tryz.ntmps57
  go_wp2
  go_loopg [4] l.length (fun gk _ wx => ∃ i : Nat, i + gk = l.length ∧ wx.heap[w.heap.size]? = some (.stringIter ⟨l.toArray⟩ i) ∧ Below w.heap.size w wx ∧ Hid (allL l.length l = allL (l.drop i).length (l.drop i)))
  case atStart => exact ⟨0, by omega, World.iter_heap .., (Below.refl _ _).alloc (Nat.le_refl _) _, rfl⟩
  case round =>
    obtain ⟨i, hig, hit, hbw, HN⟩ := hrel
    have Hit := Lib.hid hit
    clear hit
    by_cases hlt : i < l.length
    · have hnx := fun ty => Lib.run_next_any_at (P := Tryz.prog) wr w.heap.size ⟨l.toArray⟩ i ty Hit.out hlt
      have hdl : Lib.decodeL (l.drop i) = Utf8.decode ⟨l.toArray⟩ i := Lib.decodeL_drop ⟨l.toArray⟩ i
      rw [← hdl] at hnx
      have hwd := Lib.decodeL_width (l.drop i)
      have hst := allL_step (l := l.drop i) (by intro e; have := congrArg List.length e; rw [List.length_drop] at this; simp at this; omega)
      have hle : (Lib.decodeL (l.drop i)).2 ≤ l.length - i := by
        rcases decode_class (l.drop i) (by rw [List.length_drop]; omega) with ⟨x, _, _, e⟩ | ⟨_, _, _, h, _⟩
        · rw [e]; show 1 ≤ _; omega
        · rw [List.length_drop] at h; exact h
      generalize Lib.decodeL (l.drop i) = dd at hnx hwd hst hle
      obtain ⟨cp, wd⟩ := dd
      have hB : w.heap.size < wr.heap.size := by
        rcases Nat.lt_or_ge w.heap.size wr.heap.size with h | h
        · exact h
        · have := Hit.out; rw [Array.getElem?_eq_none h] at this; cases this
      have hit2 := Lib.iterAt_heap wr w.heap.size ⟨l.toArray⟩ i (i + wd) Hit.out
      have hbw2 : Below w.heap.size w (wr.iterAt w.heap.size ⟨l.toArray⟩ (i + wd)) := Lib.below_iterAt hbw (Nat.le_refl _) _ _
      have Hit2 := Lib.hid hit2
      have HLet := Lib.hid (xletter_any (cp : Int))
      rw [letZ_nat] at HLet
      rw [List.drop_drop] at hst
      have HST := Lib.hid hst
      clear hit2 hdl hst
      cases hl : letC cp
      · rw [hl] at HLet
        have HFa := Lib.hid (show lettersX l = false by rw [HLX.out, HN.out, HST.out]; simp [hl])
        clear hl
        go_wp2_with (refine (HLet.out _).mono ?_; rintro e w1 ⟨rfl, rfl⟩)
        rw [HEE.out, HFa.out]
        exact ⟨rfl, hbw2⟩
      · rw [hl] at HLet
        have HN2 := Lib.hid (show allL l.length l = allL (l.drop (i + wd)).length (l.drop (i + wd)) by rw [HN.out, HST.out]; simp [hl])
        clear hl
        go_wp2_with (refine (HLet.out _).mono ?_; rintro e w1 ⟨rfl, rfl⟩)
        go_roundg (gk - wd)
        case measure => (try simp only at hwd hle); omega
        case rel => exact ⟨i + wd, by (try simp only at hwd hle); omega, Hit2.out, hbw2, HN2⟩
    · have hnx := fun ty => Lib.run_next_end_at (P := Tryz.prog) wr w.heap.size ⟨l.toArray⟩ i ty Hit.out hlt
      obtain rfl : i = l.length := by omega
      have HFa := Lib.hid (show lettersX l = Lib.validD l by rw [HLX.out, HN.out, List.drop_length]; rfl)
      have HVn := Lib.hid (HV.out wr hbw)
      go_wp2_with fail
      refine HVn.out.mono ?_
      rintro e w1 ⟨rfl, hb1⟩
      have HB1 := Lib.hid (hbw.trans (hb1.mono hbw.size))
      clear hb1
      go_wp2
      rw [HEE.out, HFa.out]
      exact ⟨rfl, HB1.out⟩
set_option maxHeartbeats 2000000 in
set_option maxRecDepth 100000 in
set_option linter.unusedSimpArgs false in
theorem xshort_any (s : List UInt8) (w : World) (hs : s.length ≤ 1000000000) (hE : XEnv w) : Calls Tryz.prog 117 #[.string ⟨s.toArray⟩] w (Ret (.bool (shortX s)) w) := by
  have HN := Lib.hid (fun w => xname_any s w hs)
  have HL := Lib.hid (xletters_any s w hs hE)
  have HX := Lib.hid (show shortX s = (nameOk s && decide (s.length ≤ 60) && lettersX s) from rfl)
  obtain ⟨E, hEE⟩ : ∃ E, E = Ret (.bool (shortX s)) w := ⟨_, rfl⟩
  rw [← hEE]
  have HEE := Lib.hid hEE
  clear hEE hE
  cases hn : nameOk s
  · rw [hn] at HN
    have HF := Lib.hid (show shortX s = false by rw [HX.out, hn]; rfl)
    clear hn
    go_enter Tryz.func117, Tryz.ntmps117
    go_wp2_with (refine (HN.out _).mono ?_; rintro e w1 ⟨rfl, rfl⟩)
    rw [HEE.out, HF.out]
    exact ⟨rfl, Below.refl _ _⟩
  · rw [hn] at HN
    by_cases h60 : s.length ≤ 60
    · have HF := Lib.hid (show shortX s = lettersX s by rw [HX.out, hn, decide_eq_true h60]; simp)
      have h60i : (s.length : Int) ≤ 60 := by omega
      clear hn
      go_enter Tryz.func117, Tryz.ntmps117
      go_wp2_with fail
      refine (HN.out _).mono ?_
      rintro e w1 ⟨rfl, rfl⟩
      go_wp2_with fail
      refine HL.out.mono ?_
      rintro e w2 ⟨rfl, hb⟩
      have HB := Lib.hid hb
      clear hb
      go_wp2
      rw [HEE.out, HF.out]
      exact ⟨rfl, HB.out⟩
    · have HF := Lib.hid (show shortX s = false by rw [HX.out, hn, decide_eq_false h60]; rfl)
      have h60i : ¬ (s.length : Int) ≤ 60 := by omega
      clear hn
      go_enter Tryz.func117, Tryz.ntmps117
      go_wp2_with (refine (HN.out _).mono ?_; rintro e w1 ⟨rfl, rfl⟩)
      rw [HEE.out, HF.out]
      exact ⟨rfl, Below.refl _ _⟩
end Go.Proofs.YtjkiehmjffgnlaaGreatDoor
namespace Go.Proofs.YtjkiehmjffgnlaaGreatDoor
set_option linter.unusedVariables false
set_option linter.unusedSimpArgs false

def kidsG (d : Nat) : Nat → Bool → List NodeT → Option Nat
  | left, _, [] => some left
  | left, pt, k :: r => if pt = true ∧ k.name = [] then none else if goodN d k = true ∧ countN k ≤ left then kidsG d (left - countN k) (decide (k.name = [])) r else none
def firstText : List NodeT → Bool
  | [] => false
  | k :: _ => decide (k.name = [])
theorem noTwo_step (k : NodeT) (r : List NodeT) : noTwo (k :: r) = (!(decide (k.name = []) && firstText r) && noTwo r) := by
  cases r with
  | nil => simp [noTwo, firstText]
  | cons b q =>
    have e : firstText (b :: q) = decide (b.name = []) := rfl
    rw [noTwo, e]
    generalize decide (k.name = []) = x
    generalize decide (b.name = []) = y
    cases x <;> cases y <;> simp
theorem kidsG_eq (d : Nat) : ∀ (ks : List NodeT) (left : Nat) (pt : Bool), kidsG d left pt ks = if (pt = true → firstText ks = false) ∧ noTwo ks = true ∧ goodL d ks = true ∧ countL ks ≤ left then some (left - countL ks) else none
  | [], left, pt => by
    rw [kidsG, if_pos ⟨fun _ => rfl, rfl, by rw [goodL], by rw [countL]; exact Nat.zero_le _⟩, countL, Nat.sub_zero]
  | k :: r, left, pt => by
    have ih := kidsG_eq d r (left - countN k) (decide (k.name = []))
    have hn := noTwo_step k r
    have hg : goodL d (k :: r) = (goodN d k && goodL d r) := by rw [goodL]
    have hc : countL (k :: r) = countN k + countL r := by rw [countL]
    rw [kidsG, ih, hn, hg, hc]
    have hf : firstText (k :: r) = decide (k.name = []) := rfl
    rw [hf]
    by_cases h1 : pt = true ∧ k.name = []
    · rw [if_pos h1, if_neg]
      rintro ⟨h, -⟩
      have := h h1.1
      simp [h1.2] at this
    · rw [if_neg h1]
      by_cases h2 : goodN d k = true ∧ countN k ≤ left
      · rw [if_pos h2, h2.1]
        have e1 : (pt = true → decide (k.name = []) = false) := fun h => decide_eq_false fun h' => h1 ⟨h, h'⟩
        by_cases h3 : (decide (k.name = []) = true → firstText r = false) ∧ noTwo r = true ∧ goodL d r = true ∧ countL r ≤ left - countN k
        · rw [if_pos h3, if_pos]
          · congr 1; omega
          · obtain ⟨a, b, c, e⟩ := h3
            refine ⟨e1, ?_, by rw [c]; rfl, by omega⟩
            rw [b]
            cases hk : decide (k.name = [])
            · rfl
            · rw [a hk]; rfl
        · rw [if_neg h3, if_neg]
          rintro ⟨-, b, c, e⟩
          rw [Bool.and_eq_true] at b
          refine h3 ⟨fun hk => ?_, b.2, by simpa using c, by omega⟩
          have := b.1
          rw [hk] at this
          simpa using this
      · rw [if_neg h2, if_neg]
        rintro ⟨-, -, c, e⟩
        rw [Bool.and_eq_true] at c
        exact h2 ⟨c.1, by omega⟩
def goodG (d left : Nat) (n : NodeT) : Bool := goodN d n && decide (countN n ≤ left)
theorem goodG_text {d left : Nat} {t s : List UInt8} {asz : List AttrT} {ks : List NodeT} (hl : 1 ≤ left) : goodG d left (.mk t s [] asz ks) = (!decide (t = []) && lettersX t && decide (s = []) && decide (asz = []) && ks.isEmpty) := by
  unfold goodG
  rw [goodN, if_pos rfl, countN]
  cases ks with
  | nil =>
    rw [countL]
    have : decide (1 + 0 ≤ left) = true := decide_eq_true (by omega)
    rw [this, Bool.and_true]
  | cons k r => simp
theorem goodG_elem {d left : Nat} {t s n : List UInt8} {asz : List AttrT} {ks : List NodeT} (hn : n ≠ []) (hl : 1 ≤ left) : goodG d left (.mk t s n asz ks) =
    (decide (d < 16) && decide (t = []) && shortX n && decide (s.length ≤ 60) && lettersX s && attrsOk [] asz && (kidsG (d + 1) (left - 1) false ks).isSome) := by
  unfold goodG
  rw [goodN, if_neg hn, countN, kidsG_eq]
  by_cases h : noTwo ks = true ∧ goodL (d + 1) ks = true ∧ countL ks ≤ left - 1
  · rw [if_pos ⟨fun h => (by cases h), h⟩, h.1, h.2.1]
    have : decide (1 + countL ks ≤ left) = true := decide_eq_true (by omega)
    rw [this]
    simp
  · rw [if_neg (fun h' => h h'.2)]
    simp only [Option.isSome_none, Bool.and_false]
    rw [Bool.and_eq_false_iff]
    by_cases h1 : noTwo ks = true
    · by_cases h2 : goodL (d + 1) ks = true
      · right
        exact decide_eq_false fun h3 => h ⟨h1, h2, by omega⟩
      · left
        rw [Bool.eq_false_iff.2 h2, Bool.and_false]
    · left
      rw [Bool.eq_false_iff.2 h1]
      simp
theorem goodG_zero {d : Nat} {n : NodeT} : goodG d 0 n = false := by
  obtain ⟨t, s, m, asz, ks⟩ := n
  unfold goodG
  rw [countN]
  have : decide (1 + countL ks ≤ 0) = false := decide_eq_false (by omega)
  rw [this, Bool.and_false]
theorem goodT_G (n : NodeT) : goodT n = (goodG 0 4096 n && !decide (n.name = [])) := rfl
inductive SmallN (m : Nat) : NodeT → Prop
  | mk (t s n : List UInt8) (asz : List AttrT) (ks : List NodeT) (ht : t.length ≤ m) (hs : s.length ≤ m) (hn : n.length ≤ m) (ha : asz.length ≤ m) (hx : ∀ a ∈ asz, a.name.length ≤ m ∧ a.value.length ≤ m) (hk : ks.length ≤ m) (h : ∀ k ∈ ks, SmallN m k) : SmallN m (.mk t s n asz ks)
theorem SmallN.parts {m : Nat} {n : NodeT} (h : SmallN m n) : n.text.length ≤ m ∧ n.space.length ≤ m ∧ n.name.length ≤ m ∧ n.attrs.length ≤ m ∧ (∀ a ∈ n.attrs, a.name.length ≤ m ∧ a.value.length ≤ m) ∧ n.kids.length ≤ m ∧ ∀ k ∈ n.kids, SmallN m k := by
  cases h with
  | mk t s n asz ks ht hs hn ha hx hk h => exact ⟨ht, hs, hn, ha, hx, hk, h⟩
theorem SmallN.text {m : Nat} {t : List UInt8} (h : t.length ≤ m) : SmallN m (textN t) := .mk _ _ _ _ _ h (Nat.zero_le _) (Nat.zero_le _) (Nat.zero_le _) (fun a ha => by cases ha) (Nat.zero_le _) (fun k hk => by cases hk)
end Go.Proofs.YtjkiehmjffgnlaaGreatDoor
namespace Go.Proofs.YtjkiehmjffgnlaaGreatDoor
set_option linter.unusedVariables false
set_option linter.unusedSimpArgs false
open Go.RowKit

theorem attrs_at {P : Nat → Prop} {w : World} {A : Option Addr} {n cap : Nat} {ats : List AttrT} (h : AttrsP P w (.slice A n cap) ats) : n = ats.length ∧ n ≤ cap ∧ cap ≤ maxLen ∧ ∀ j a, ats[j]? = some a → ∃ b o, A = some ⟨b, o, none⟩ ∧ b < w.heap.size ∧ w.cell? ⟨b, o + j * 2, none⟩ = some (.string ⟨a.name.toArray⟩) ∧ w.cell? ⟨b, o + j * 2 + 1, none⟩ = some (.string ⟨a.value.toArray⟩) := by
  obtain ⟨⟨A', cap', hv, h1, h2, hc⟩, -⟩ := h
  injection hv with e1 e2 e3
  subst e1 e2 e3
  refine ⟨rfl, h1, h2, fun j a hj => ?_⟩
  obtain ⟨b, o, hA, hb, cs, hl, hcell, hr⟩ := hc j a hj
  have hr' : cs = [.string ⟨a.name.toArray⟩, .string ⟨a.value.toArray⟩] := hr
  subst hr'
  exact ⟨b, o, hA, hb, hcell 0 _ rfl, hcell 1 _ rfl⟩
theorem cnt_run {w : World} {b n : Nat} {f : List UInt8 → Int} (h : Cnt w b n f) (key : List UInt8) (hkey : key.length ≤ maxLen) (c : Int) (hc : f key = c) : (Instr.lookup 179 (.map (some b)) (.string ⟨key.toArray⟩) false).run Tryz.prog w = .ok (.int .i64 c) w := by
  obtain ⟨D, h1, h2, h3⟩ := h
  obtain ⟨c', hrun, hat, hwc⟩ := h1.lookup_int (t := 179) cntKey Tryz.underlying179 Tryz.underlying3 (cntZero w) (key_str hkey)
  rw [h3] at hat
  have e1 : Lit.int .i64 (f key) = Lit.int .i64 c' := DataW.lit.inj hat
  have e : f key = c' := (Lit.int.inj e1).2
  obtain rfl : c' = c := e.symm.trans hc
  exact hrun
theorem attrsOk_step (seen : List (List UInt8)) (a : AttrT) (r : List AttrT) : attrsOk seen (a :: r) = (shortX a.name && !decide (a.name = wXmlns) && !decide (a.name ∈ seen) && lettersX a.value && attrsOk (a.name :: seen) r) := rfl
set_option maxHeartbeats 16000000 in
set_option maxRecDepth 100000 in
set_option linter.unusedSimpArgs false in
theorem xattrsOk_any (v : Value) (ats : List AttrT) (w : World) (h : AttrsP anyB w v ats) (hl : ats.length ≤ 2000000) (hs : ∀ a ∈ ats, a.name.length ≤ 2000000 ∧ a.value.length ≤ 2000000) (hE : XEnv w) : Calls Tryz.prog 118 #[v] w (Ret (.bool (attrsOk [] ats)) w) := by
  obtain ⟨E, hEE⟩ : ∃ E, E = Ret (.bool (attrsOk [] ats)) w := ⟨_, rfl⟩
  rw [← hEE]
  have HEE := Lib.hid hEE
  clear hEE
  have hmm := @run_makeMap Tryz.prog
  obtain ⟨A, cap, rfl⟩ := tab_shape h.1
  obtain ⟨-, hcap, hcm, hat⟩ := attrs_at h
  unfold maxLen at hcm
  have HAT := Lib.hid hat
  have HSh := Lib.hid (fun (s : List UInt8) wx (hs : s.length ≤ 2000000) (hb : Below w.heap.size w wx) => xshort_any s wx (by omega) (hE.below hb))
  have HLe := Lib.hid (fun (s : List UInt8) wx (hs : s.length ≤ 2000000) (hb : Below w.heap.size w wx) => xletters_any s wx (by omega) (hE.below hb))
  have HSm := Lib.hid hs
  have hb0 : Below w.heap.size w (w.alloc (.map #[] 0)) := (Below.refl _ _).alloc (Nat.le_refl _) _
  have HB0 := Lib.hid hb0
  have HC0 := Lib.hid (show Cnt (w.alloc (.map #[] 0)) w.heap.size 0 (cntF []) from Cnt.made w)
  clear h hat hE hs hb0
  go_enter Tryz.func118, Tryz.ntmps118
  go_wp2_with fail
  generalize w.alloc (.map #[] 0) = w0 at *
  obtain ⟨B, hB⟩ : ∃ B, B = w.heap.size := ⟨_, rfl⟩
  rw [← hB] at HC0 ⊢
  have hBw : w.heap.size ≤ B := Nat.le_of_eq hB.symm
  clear hB hmm
  go_loopg [9] ats.length (fun g i wr => ∃ (k : Nat) (seen : List (List UInt8)), k + g = ats.length ∧ i = .int .i64 k ∧ Hid (Cnt wr B k (cntF seen)) ∧ Below w.heap.size w wr ∧ Hid (attrsOk [] ats = attrsOk seen (ats.drop k)))
  case atStart => exact ⟨0, [], by omega, rfl, HC0, HB0.out, Lib.hid rfl⟩
  case round =>
    obtain ⟨k, seen, hkg, rfl, HC, hbr, HK⟩ := hrel
    have HB := Lib.hid hbr
    clear HC0 HB0 hbr
    rcases hd : ats.drop k with _ | ⟨a, q⟩
    · have hk2 : k = ats.length := by have := drop_nil hd; omega
      have HF := Lib.hid (show attrsOk [] ats = true by rw [HK.out, hd]; rfl)
      clear hd HK
      subst hk2
      go_wp2
      rw [HEE.out, HF.out]
      exact ⟨rfl, HB.out⟩
    obtain ⟨hlt, hx, hr⟩ := drop_consA hd
    obtain ⟨b, o, rfl, hbl, e0, e1⟩ := HAT.out k a hx
    have hsm := HSm.out a (List.mem_of_getElem? hx)
    have d0 := (HB.out.cell (p := ⟨b, o + k * 2, none⟩) hbl).trans e0
    have d1 := (HB.out.cell (p := ⟨b, o + k * 2 + 1, none⟩) hbl).trans e1
    have HK1 := Lib.hid (show attrsOk [] ats = (shortX a.name && !decide (a.name = wXmlns) && !decide (a.name ∈ seen) && lettersX a.value && attrsOk (a.name :: seen) (ats.drop (k + 1))) by rw [HK.out, hd, hr, attrsOk_step])
    have k1 : (k : Int) < ats.length := by omega
    have k2 : (0 : Int) ≤ k := by omega
    obtain ⟨an, avl⟩ := a
    simp only at *
    have hb1 : Below wr.heap.size wr (wr.alloc (.cells #[.string ⟨an.toArray⟩, .string ⟨avl.toArray⟩] 87 (0, 0))) := (Below.refl _ _).alloc (Nat.le_refl _) _
    have HC1 := Lib.hid (HC.out.below hb1)
    have HB1 := Lib.hid (HB.out.trans (hb1.mono HB.out.size))
    have hc1 := heap_alloc_new wr (.cells #[.string ⟨an.toArray⟩, .string ⟨avl.toArray⟩] 87 (0, 0))
    have hkl : an.length ≤ maxLen := by unfold maxLen; omega
    have hn7 : k < maxLen := by unfold maxLen; omega
    have hBr : B < wr.heap.size := HC.out.lt
    clear hd hx hr e0 e1 HK HC hb1
    go_upto_region 5 with (fail)
    generalize hw1 : wr.alloc (.cells #[.string ⟨an.toArray⟩, .string ⟨avl.toArray⟩] 87 (0, 0)) = w1 at *
    obtain ⟨c, hc⟩ : ∃ c, c = wr.heap.size := ⟨_, rfl⟩
    rw [← hc] at hc1 hBr ⊢
    clear hc d0 d1 hw1
    have x0 := xat hc1 0
    have x1 := xat hc1 1
    simp only [List.getElem?_toArray, List.getElem?_cons_zero, List.getElem?_cons_succ] at x0 x1
    have HX := Lib.hid hc1
    clear hc1
    obtain ⟨cv, hcv, hcv01⟩ : ∃ cv : Int, cntF seen an = cv ∧ (cv = 0 ∨ cv = 1) := ⟨_, rfl, by unfold cntF; split <;> simp⟩
    have HCV := Lib.hid hcv
    clear hcv
    have hcv0 : 0 ≤ cv := by omega
    have hcv1 : cv ≤ 1 := by omega
    go_upto_region 6 with (first
      | (at_lookup; refine wpList_cnt_look _ rfl _ _ rfl B k (cntF seen) rfl HC1.out _ cv HCV.out rfl hkl ?_)
      | (at_mapUpdate; refine wpList_cnt_store _ rfl _ _ _ rfl B k (cntF seen) rfl HC1.out hn7 _ (cv + 1) rfl rfl hkl (by omega) (by omega) ?_; intro w2 hc2 hg2))
    have hx2 := (hg2.block c (xlt HX.out) (by intro e; injection e with e; omega)).trans HX.out
    have HX2 := Lib.hid hx2
    have y0 := xat hx2 0
    have y1 := xat hx2 1
    simp only [List.getElem?_toArray, List.getElem?_cons_zero, List.getElem?_cons_succ] at y0 y1
    have HB2 := Lib.hid (show Below w.heap.size w w2 from ⟨hg2.os.trans HB1.out.os, hg2.tape.trans HB1.out.tape, hg2.output.trans HB1.out.output, Nat.le_trans HB1.out.size hg2.size, fun j hj => (hg2.block j (Nat.lt_of_lt_of_le hj HB1.out.size) (by intro e; injection e with e; omega)).trans (HB1.out.block j hj)⟩)
    have HC2 := Lib.hid hc2
    have hcl := HX2.out
    have hclt : c < w2.heap.size := xlt hx2
    clear hx2 hg2 hc2 x0 x1 HX HB1 HC1 HB hcl
    go_wp2_with fail
    refine (HSh.out an w2 (by omega) HB2.out).mono ?_
    rintro e w3 ⟨rfl, hb3⟩
    have HB3 := Lib.hid (HB2.out.trans (hb3.mono HB2.out.size))
    have HC3 := Lib.hid (HC2.out.below hb3)
    have z0 := (hb3.cell (p := ⟨c, 0, none⟩) hclt).trans y0
    have z1 := (hb3.cell (p := ⟨c, 1, none⟩) hclt).trans y1
    have hclt3 : c < w3.heap.size := Nat.lt_of_lt_of_le hclt hb3.size
    clear hb3 HB2 HC2 HX2 y0 y1 hclt
    cases hs : shortX an
    case false =>
      have HF := Lib.hid (show attrsOk [] ats = false by rw [HK1.out, hs]; simp)
      clear hs HK1
      go_wp2
      rw [HEE.out, HF.out]
      exact ⟨rfl, HB3.out⟩
    by_cases hx : an = wXmlns
    · have HF := Lib.hid (show attrsOk [] ats = false by rw [HK1.out, decide_eq_true hx]; simp)
      have b1 : (an == [120, 109, 108, 110, 115]) = true := by rw [hx]; rfl
      clear hs hx HK1
      go_wp2
      rw [HEE.out, HF.out]
      exact ⟨rfl, HB3.out⟩
    have b1 : (an == [120, 109, 108, 110, 115]) = false := list_ne hx
    have HNX := Lib.hid hx
    have HSX := Lib.hid hs
    clear hs hx
    rcases hcv01 with rfl | rfl
    rotate_left
    · have hmem : an ∈ seen := by
        have := HCV.out
        unfold cntF at this
        by_cases h : an ∈ seen
        · exact h
        · rw [if_neg h] at this; omega
      have HF := Lib.hid (show attrsOk [] ats = false by rw [HK1.out, decide_eq_true hmem]; simp)
      clear hmem HK1
      have hlk := cnt_run HC3.out an hkl 2 (if_pos rfl)
      go_wp2
      rw [HEE.out, HF.out]
      exact ⟨rfl, HB3.out⟩
    have hmem : ¬ an ∈ seen := by
      have := HCV.out
      unfold cntF at this
      by_cases h : an ∈ seen
      · rw [if_pos h] at this; omega
      · exact h
    have HNM := Lib.hid hmem
    clear hmem
    have hlk := cnt_run HC3.out an hkl 1 (if_pos rfl)
    go_wp2_with fail
    refine (HLe.out avl w3 (by omega) HB3.out).mono ?_
    rintro e w4 ⟨rfl, hb4⟩
    have HB4 := Lib.hid (HB3.out.trans (hb4.mono HB3.out.size))
    have HC4 := Lib.hid (HC3.out.below hb4)
    clear hb4 HB3 HC3 z0 z1 b1 hlk
    have HK2 := Lib.hid (show attrsOk [] ats = (lettersX avl && attrsOk (an :: seen) (ats.drop (k + 1))) by rw [HK1.out, HSX.out, decide_eq_false HNX.out, decide_eq_false HNM.out]; simp)
    cases hv : lettersX avl
    case false =>
      have HF := Lib.hid (show attrsOk [] ats = false by rw [HK2.out, hv]; rfl)
      clear hv HK1 HK2
      go_wp2
      rw [HEE.out, HF.out]
      exact ⟨rfl, HB4.out⟩
    have HK3 := Lib.hid (show attrsOk [] ats = attrsOk (an :: seen) (ats.drop (k + 1)) by rw [HK2.out, hv]; rfl)
    have HC5 := Lib.hid (show Cnt w4 B (k + 1) (cntF (an :: seen)) by rw [← cntF_cons]; exact HC4.out)
    clear hv HK1 HK2 HC4
    go_wp2
    go_roundg (gk - 1)
    case measure => omega
    case rel => exact ⟨k + 1, an :: seen, by omega, by go_num, HC5, HB4.out, HK3⟩
end Go.Proofs.YtjkiehmjffgnlaaGreatDoor

/-
  The walk of reply.Read. Conditions: what the listed variables hold; the text is shorter than a hundred million bytes.
-/
import Derived.Test.YtlkbfehdiopkbaaGreatDoorRepL
namespace Go.Proofs.YtlkbfehdiopkbaaGreatDoor
open Go.RowKit

def badL (l0 : List UInt8) : Bool := !pre9.isPrefixOf l0 || decide ((l0.drop 9).length < 4)
/-- what is answered behind the lines' loop. -/
def endS (s : Int) (buf : List UInt8) (head : Bool) (rest : List UInt8) : Option (List HdrT × Nat × Bool) → Option (RespT × Nat)
  | none => none
  | some (hs, n, cl) =>
    if head = false ∧ rest.length < n then none
    else if goodR (wantS ⟨s, hs, if head then [] else rest.take n, head, cl⟩ n) && (formR (wantS ⟨s, hs, if head then [] else rest.take n, head, cl⟩ n)).isPrefixOf buf then
      some (⟨s, hs, if head then [] else rest.take n, head, cl⟩, (formR (wantS ⟨s, hs, if head then [] else rest.take n, head, cl⟩ n)).length)
    else none
theorem readR_none {buf : List UInt8} {head : Bool} (h : cutS [13, 10, 13, 10] buf = none) : readR stS buf head = none := by unfold readR; rw [h]
theorem readR_bad {buf top rest l0 : List UInt8} {ls : List (List UInt8)} {head : Bool} (h : cutS [13, 10, 13, 10] buf = some (top, rest)) (hs : Lib.split top [13, 10] = l0 :: ls) (hb : badL l0 = true) : readR stS buf head = none := by
  unfold readR
  rw [h]
  simp only
  rw [hs]
  simp only
  rw [if_pos]
  unfold badL at hb
  simpa using hb
theorem readR_end {buf top rest l0 : List UInt8} {ls : List (List UInt8)} {head : Bool} (h : cutS [13, 10, 13, 10] buf = some (top, rest)) (hs : Lib.split top [13, 10] = l0 :: ls) (hb : badL l0 = false) : readR stS buf head = endS (stS ((l0.drop 9).take 3)) buf head rest (stepsL ls [] 0 false) := by
  unfold readR
  rw [h]
  simp only
  rw [hs]
  simp only
  rw [if_neg]
  · unfold endS
    rfl
  · unfold badL at hb
    simpa using hb
theorem trimPre (l : List UInt8) (h : pre9.isPrefixOf l = true) : Lib.trimPrefix l pre9 = l.drop 9 := by
  unfold Lib.trimPrefix Lib.hasPrefix
  rw [if_pos h]
  rfl
/-- 's[1:]' of a list of texts that is full. -/
theorem slice_one (n lb : Nat) : ∃ oo, (0 < n → oo = 1) ∧ ∀ w, (Instr.slice 40 (.slice (some ⟨lb, 0, none⟩) (n + 1) (n + 1)) (some (.int .i64 1)) none none).run Tryz.prog w = .ok (.slice (some ⟨lb, oo, none⟩) n n) w := by
  have hu := Tryz.underlying40
  have hs := Tryz.sizeOf9
  have he : Tryz.prog.elem 40 = 9 := by kernel_rfl
  have key : ∀ w, (Instr.slice 40 (.slice (some ⟨lb, 0, none⟩) (n + 1) (n + 1)) (some (.int .i64 1)) none none).run Tryz.prog w = .ok (sliced (some ⟨lb, 0, none⟩) 1 (n + 1) (n + 1) 1) w := fun w => by
    rw [run_slice_l (P := Tryz.prog) (w := w) 40 (some ⟨lb, 0, none⟩) (n + 1) (n + 1) (by rw [he]; exact hu) .i64 1 (by omega) (by omega), he, hs]
    rfl
  cases n with
  | zero => exact ⟨0, fun h => absurd h (by omega), fun w => by rw [key]; rfl⟩
  | succ n =>
    refine ⟨1, fun _ => rfl, fun w => ?_⟩
    rw [key]
    unfold sliced
    rw [if_neg (by omega)]
    rfl
/-! behind the lines: the response with its body -/
structure FillB (w2 wx : World) (q : Nat) (st : Int) (head : Bool) (hs : List HdrT) (bd : List UInt8) (cl : Bool) (hv : Value) : Prop where
  below : Below q w2 wx
  cells : wx.heap[q]? = some (.cells #[.int .i64 st, hv, .string ⟨bd.toArray⟩, .bool head, .bool cl] 49 (0, 0))
  own : OwnT 38 2 (q + 1) (hs.map hcells) hv wx
theorem own_hdrs {w : World} {B : Nat} {hs : List HdrT} {hv : Value} (h : OwnT 38 2 B (hs.map hcells) hv w) : Hdrs w hv hs :=
  OwnT.tab h (by rw [List.length_map]) (fun j x r hx hr => by
    rw [List.getElem?_map, hx] at hr
    injection hr with hr
    exact hr.symm)
theorem Filled.body {w2 wr : World} {q : Nat} {st : Int} {head cl : Bool} {hs : List HdrT} {hv : Value} (h : Filled w2 wr q st head hs cl hv) (bd : List UInt8) : FillB w2 (wr.setCell ⟨q, 2, none⟩ (.string ⟨bd.toArray⟩)) q st head hs bd cl hv :=
  ⟨h.below.setCell (Nat.le_refl _) _, heap_setCell_same _ q 2 _ _ _ h.cells, h.own.grown (grown_set1 _ _ _ _) (own_ne h.own)⟩
section
variable {w2 wx wy : World} {q : Nat} {st : Int} {head cl : Bool} {hs : List HdrT} {hv : Value} {bd : List UInt8}
theorem FillB.lt (h : FillB w2 wx q st head hs bd cl hv) : q < wx.heap.size := (Array.getElem?_eq_some_iff.1 h.cells).1
theorem FillB.keep (h : FillB w2 wx q st head hs bd cl hv) (hb : Below wx.heap.size wx wy) : FillB w2 wy q st head hs bd cl hv :=
  ⟨h.below.trans (hb.mono (Nat.le_of_lt h.lt)), (hb.block q h.lt).trans h.cells, h.own.below hb⟩
end
theorem set5_own {w : World} {B b : Nat} {hs : List HdrT} {hv : Value} (h : OwnT 38 2 B (hs.map hcells) hv w) (hb : b < B) (y0 y1 y2 y3 y4 : Value) :
    OwnT 38 2 B (hs.map hcells) hv (((((w.setCell ⟨b, 0, none⟩ y0).setCell ⟨b, 1, none⟩ y1).setCell ⟨b, 2, none⟩ y2).setCell ⟨b, 3, none⟩ y3).setCell ⟨b, 4, none⟩ y4) := by
  have hne : ∀ k, hv.ownBlock = some k → some k ≠ some b := fun k hk e => by
    have := (h.lt k hk).1
    injection e with e
    omega
  exact ((((h.grown (grown_set1 _ b 0 y0) hne).grown (grown_set1 _ b 1 y1) hne).grown (grown_set1 _ b 2 y2) hne).grown (grown_set1 _ b 3 y3) hne).grown (grown_set1 _ b 4 y4) hne
theorem FillB.put {w2 wx : World} {q : Nat} {st : Int} {head cl : Bool} {hs : List HdrT} {hv : Value} {bd : List UInt8} (_ : FillB w2 wx q st head hs bd cl hv) {b : Nat} {x0 x1 x2 x3 x4 : Value} {t : TypeId} (h : wx.heap[b]? = some (.cells #[x0, x1, x2, x3, x4] t (0, 0))) :
    wx.cell? ⟨b, 0, none⟩ = some x0 ∧ (wx.setCell ⟨b, 0, none⟩ (.int .i64 st)).cell? ⟨b, 1, none⟩ = some x1 ∧ ((wx.setCell ⟨b, 0, none⟩ (.int .i64 st)).setCell ⟨b, 1, none⟩ hv).cell? ⟨b, 2, none⟩ = some x2 ∧
      (((wx.setCell ⟨b, 0, none⟩ (.int .i64 st)).setCell ⟨b, 1, none⟩ hv).setCell ⟨b, 2, none⟩ (.string ⟨bd.toArray⟩)).cell? ⟨b, 3, none⟩ = some x3 ∧
      ((((wx.setCell ⟨b, 0, none⟩ (.int .i64 st)).setCell ⟨b, 1, none⟩ hv).setCell ⟨b, 2, none⟩ (.string ⟨bd.toArray⟩)).setCell ⟨b, 3, none⟩ (.bool head)).cell? ⟨b, 4, none⟩ = some x4 ∧
      wx.frozen? ⟨b, 0, none⟩ = false ∧ wx.frozen? ⟨b, 1, none⟩ = false ∧ wx.frozen? ⟨b, 2, none⟩ = false ∧ wx.frozen? ⟨b, 3, none⟩ = false ∧ wx.frozen? ⟨b, 4, none⟩ = false := set5_cells _ _ _ _ h
theorem FillB.put5 {w2 wx : World} {q : Nat} {st : Int} {head cl : Bool} {hs : List HdrT} {hv : Value} {bd : List UInt8} (_ : FillB w2 wx q st head hs bd cl hv) {b : Nat} {x0 x1 x2 x3 x4 : Value} {t : TypeId} (h : wx.heap[b]? = some (.cells #[x0, x1, x2, x3, x4] t (0, 0))) :
    (((((wx.setCell ⟨b, 0, none⟩ (.int .i64 st)).setCell ⟨b, 1, none⟩ hv).setCell ⟨b, 2, none⟩ (.string ⟨bd.toArray⟩)).setCell ⟨b, 3, none⟩ (.bool head)).setCell ⟨b, 4, none⟩ (.bool cl)).heap[b]? = some (.cells #[.int .i64 st, hv, .string ⟨bd.toArray⟩, .bool head, .bool cl] t (0, 0)) := set5 _ _ _ _ _ h
theorem FillB.putOwn {w2 wx : World} {q : Nat} {st : Int} {head cl : Bool} {hs : List HdrT} {hv : Value} {bd : List UInt8} (h : FillB w2 wx q st head hs bd cl hv) {b : Nat} (hb : b < q + 1) :
    OwnT 38 2 (q + 1) (hs.map hcells) hv (((((wx.setCell ⟨b, 0, none⟩ (.int .i64 st)).setCell ⟨b, 1, none⟩ hv).setCell ⟨b, 2, none⟩ (.string ⟨bd.toArray⟩)).setCell ⟨b, 3, none⟩ (.bool head)).setCell ⟨b, 4, none⟩ (.bool cl)) := set5_own h.own hb _ _ _ _ _
theorem want_same (st : Int) (hs : List HdrT) (bd : List UInt8) (cl : Bool) (n : Nat) : wantS ⟨st, hs, bd, false, cl⟩ n = ⟨st, hs, bd, false, cl⟩ := if_neg (by simp)
theorem want_204 (hs : List HdrT) (bd : List UInt8) (cl : Bool) (n : Nat) : wantS ⟨204, hs, bd, true, cl⟩ n = ⟨204, hs, bd, true, cl⟩ := if_neg (by simp)
theorem want_head2 {st : Int} (h : ¬ st = 204) (hs : List HdrT) (cl : Bool) (n : Nat) : wantS ⟨st, hs, [], true, cl⟩ n = ⟨st, hs, List.replicate n 32, true, cl⟩ := if_pos ⟨rfl, h⟩
theorem writeS_good {r : RespT} (h : goodR r = true) : writeS r = some (formR r) := by unfold writeS; rw [h]; rfl
theorem endS_no (s : Int) (buf : List UInt8) (rest : List UInt8) (hs : List HdrT) (n : Nat) (cl : Bool) (h : ¬ rest.length < n) : endS s buf false rest (some (hs, n, cl)) =
    if goodR ⟨s, hs, rest.take n, false, cl⟩ && (formR ⟨s, hs, rest.take n, false, cl⟩).isPrefixOf buf then some (⟨s, hs, rest.take n, false, cl⟩, (formR ⟨s, hs, rest.take n, false, cl⟩).length) else none := by
  have : endS s buf false rest (some (hs, n, cl)) = if false = false ∧ rest.length < n then none
    else if goodR (wantS ⟨s, hs, rest.take n, false, cl⟩ n) && (formR (wantS ⟨s, hs, rest.take n, false, cl⟩ n)).isPrefixOf buf then
      some (⟨s, hs, rest.take n, false, cl⟩, (formR (wantS ⟨s, hs, rest.take n, false, cl⟩ n)).length)
    else none := rfl
  rw [this, if_neg (fun hh => h hh.2), want_same]
theorem endS_head (s : Int) (buf : List UInt8) (rest : List UInt8) (hs : List HdrT) (n : Nat) (cl : Bool) : endS s buf true rest (some (hs, n, cl)) =
    if goodR (wantS ⟨s, hs, [], true, cl⟩ n) && (formR (wantS ⟨s, hs, [], true, cl⟩ n)).isPrefixOf buf then some (⟨s, hs, [], true, cl⟩, (formR (wantS ⟨s, hs, [], true, cl⟩ n)).length) else none := by
  have : endS s buf true rest (some (hs, n, cl)) = if true = false ∧ rest.length < n then none
    else if goodR (wantS ⟨s, hs, [], true, cl⟩ n) && (formR (wantS ⟨s, hs, [], true, cl⟩ n)).isPrefixOf buf then
      some (⟨s, hs, [], true, cl⟩, (formR (wantS ⟨s, hs, [], true, cl⟩ n)).length)
    else none := rfl
  rw [this, if_neg (fun hh => by cases hh.1)]
set_option maxHeartbeats 4000000 in
set_option maxRecDepth 100000 in
set_option linter.unusedSimpArgs false in
theorem read_fresh (buf : List UInt8) (head : Bool) (w : World) (hbuf : buf.length ≤ 100000000) (hE : Env w) :
    Calls Tryz.prog 27 #[.string ⟨buf.toArray⟩, .bool head] w (ReadF (readR stS buf head) w) := by
  have hA : Below w.heap.size w (w.alloc (.cells #[.int .i64 0, .slice none 0 0, .string ⟨#[]⟩, .bool false, .bool false] 49)) := (Below.refl _ w).alloc (Nat.le_refl _) _
  have hRb := heap_alloc_new w (.cells #[.int .i64 0, .slice none 0 0, .string ⟨#[]⟩, .bool false, .bool false] 49)
  have hsz : w.heap.size < (w.alloc (.cells #[.int .i64 0, .slice none 0 0, .string ⟨#[]⟩, .bool false, .bool false] 49)).heap.size := by simp
  have HCut := Lib.hid (scut_any buf [13, 10, 13, 10] _ (by omega) (hE.below hA))
  obtain ⟨top, rest, ok, hT, hTl, hno, hyes⟩ : ∃ top rest ok, cutT buf (cutS [13, 10, 13, 10] buf) = .tuple #[.string ⟨top.toArray⟩, .string ⟨rest.toArray⟩, .bool ok] ∧ top.length + rest.length ≤ buf.length ∧ (ok = false → cutS [13, 10, 13, 10] buf = none) ∧ (ok = true → cutS [13, 10, 13, 10] buf = some (top, rest)) := by
    rcases hc : cutS [13, 10, 13, 10] buf with _ | ⟨a, b⟩
    · exact ⟨buf, [], false, rfl, by simp, fun _ => rfl, fun h => by cases h⟩
    · have := congrArg List.length (cut_len hc)
      simp only [List.length_append, List.length_cons, List.length_nil] at this
      exact ⟨a, b, true, rfl, by omega, fun h => (by cases h), fun _ => rfl⟩
  rw [hT] at HCut
  have hsum := split_sum top 13 10
  have hne := split_ne top [13, 10]
  rcases hsp : Lib.split top [13, 10] with _ | ⟨l0, ls⟩
  · exact absurd hsp hne
  rw [hsp] at hsum
  have HR0 := Lib.hid (fun h => @readR_none buf head (hno h))
  have HR1 := Lib.hid (fun h => @readR_bad buf top rest l0 ls head (hyes h) hsp)
  have HR2 := Lib.hid (fun h => @readR_end buf top rest l0 ls head (hyes h) hsp)
  have HSp := Lib.hid (fun w hE => ssplit_any top [13, 10] w (by omega) (by decide) hE)
  rw [hsp] at HSp
  generalize readR stS buf head = RD at *
  clear hno hyes hT hne hsp
  have hl0 : l0.length + 2 ≤ lineSum (l0 :: ls) := lineSum_mem (List.mem_cons_self ..)
  have HPre := Lib.hid (fun w => scutPrefix_any l0 pre9 w)
  go_enter Tryz.func27, Tryz.ntmps27
  go_wp2_with fail
  generalize (w.alloc (.cells #[.int .i64 0, .slice none 0 0, .string ⟨#[]⟩, .bool false, .bool false] 49)) = wa at *
  refine HCut.out.mono ?_
  rintro e w1 ⟨rfl, hb1⟩
  have hA1 := hA.trans (hb1.mono hA.size)
  have hR1 := (hb1.block _ hsz).trans hRb
  have hz1 : w.heap.size < w1.heap.size := Nat.lt_of_lt_of_le hsz hb1.size
  clear hb1 hRb hsz hA HCut
  go_wp2_with fail
  refine (HSp.out w1 (hE.below hA1)).mono ?_
  rintro e w2 ⟨lb, rfl, hvl, hb2⟩
  have hA2 := hA1.trans (hb2.mono hA1.size)
  have hR2 := (hb2.block _ hz1).trans hR1
  have hz2 : w.heap.size < w2.heap.size := Nat.lt_of_lt_of_le hz1 hb2.size
  clear hb2 hR1 hz1 hA1 HSp
  have HVl := Lib.hid hvl
  obtain ⟨LA, lcap, hva, hlc, hlm, hlcell⟩ := hvl
  injection hva with e1 e2 e3
  subst e1 e3
  clear e2
  obtain ⟨lb', lo, he, hlb, hl0c⟩ := hlcell 0 l0 rfl
  injection he with he
  injection he with e1 e2 _
  subst e1 e2
  rw [Nat.add_zero] at hl0c
  clear hlcell
  unfold maxLen at hlm
  have HR2' := Lib.hid hR2
  rw [List.length_cons] at *
  go_wp2_with fail
  refine (HPre.out _).mono ?_
  rintro e w3 ⟨rfl, rfl⟩
  have hbad : badL l0 = false → pre9.isPrefixOf l0 = true ∧ 4 ≤ (l0.drop 9).length := fun h => by
    unfold badL at h
    simp only [Bool.or_eq_false_iff, Bool.not_eq_false', decide_eq_false_iff_not] at h
    exact ⟨h.1, by omega⟩
  have hbad2 : badL l0 = true → pre9.isPrefixOf l0 = false ∨ (l0.drop 9).length < 4 := fun h => by
    unfold badL at h
    simpa using h
  have hfirst : (Lib.trimPrefix l0 pre9).length ≤ l0.length := by
    unfold Lib.trimPrefix
    split <;> simp
  have hTP := Lib.hid (trimPre l0)
  generalize Lib.trimPrefix l0 pre9 = first at *
  cases hok : ok
  · subst hok
    have HN := Lib.hid (HR0.out rfl)
    clear HR0 HR1 HR2 hbad hbad2 hTP hR2
    obtain ⟨c0, c1, c2, c3, c4, f0, f1, f2, f3, f4⟩ := set5_cells (.int .i64 0) (.slice none 0 0) (.string ⟨#[]⟩) (.bool false) HR2'.out
    have HR3 := Lib.hid (set5 (.int .i64 0) (.slice none 0 0) (.string ⟨#[]⟩) (.bool false) (.bool false) HR2'.out)
    go_wp2
    refine bodyPost_ret (results_ctt rfl _ _ _ _ _ _ _ rfl HR3.out Tryz.underlying49 rfl (by kernel_rfl)) rfl ?_
    exact readF_no HN.out (set5_below hA2 (Nat.le_refl _) _ _ _ _ _)
  · subst hok
    cases hbd : badL l0
    case true =>
      have HN := Lib.hid (HR1.out rfl hbd)
      have hb2' := hbad2 hbd
      have hTP' := hTP
      clear HR0 HR1 HR2 hbad hbad2 hTP hR2 hbd
      cases hpx : pre9.isPrefixOf l0
      · clear hb2'
        obtain ⟨c0, c1, c2, c3, c4, f0, f1, f2, f3, f4⟩ := set5_cells (.int .i64 0) (.slice none 0 0) (.string ⟨#[]⟩) (.bool false) HR2'.out
        have HR3 := Lib.hid (set5 (.int .i64 0) (.slice none 0 0) (.string ⟨#[]⟩) (.bool false) (.bool false) HR2'.out)
        go_wp2
        refine bodyPost_ret (results_ctt rfl _ _ _ _ _ _ _ rfl HR3.out Tryz.underlying49 rfl (by kernel_rfl)) rfl ?_
        exact readF_no HN.out (set5_below hA2 (Nat.le_refl _) _ _ _ _ _)
      · have hfe := hTP'.out hpx
        have hl4 : ((first.length : Int) < 4) := by
          rcases hb2' with h | h
          · rw [hpx] at h; cases h
          · rw [hfe]; omega
        clear hfe hpx hb2'
        obtain ⟨c0, c1, c2, c3, c4, f0, f1, f2, f3, f4⟩ := set5_cells (.int .i64 0) (.slice none 0 0) (.string ⟨#[]⟩) (.bool false) HR2'.out
        have HR3 := Lib.hid (set5 (.int .i64 0) (.slice none 0 0) (.string ⟨#[]⟩) (.bool false) (.bool false) HR2'.out)
        go_wp2
        refine bodyPost_ret (results_ctt rfl _ _ _ _ _ _ _ rfl HR3.out Tryz.underlying49 rfl (by kernel_rfl)) rfl ?_
        exact readF_no HN.out (set5_below hA2 (Nat.le_refl _) _ _ _ _ _)
    obtain ⟨hpx, hl4⟩ := hbad hbd
    have hfe := hTP.out hpx
    rw [← hfe] at hl4
    have HR := Lib.hid (HR2.out rfl hbd)
    rw [← hfe] at HR
    rw [hpx]
    clear HR0 HR1 HR2 hbad hbad2 hTP hbd hpx hfe
    have HAt := Lib.hid (fun w hE => atoi_any (first.take 3) w (by rw [List.length_take]; omega) hE)
    obtain ⟨st, hst⟩ : ∃ st, stS (first.take 3) = st := ⟨_, rfl⟩
    rw [hst] at HR
    have HSt := Lib.hid hst
    clear hst
    have hlsn := lineSum_len ls
    have hls2 : lineSum ls ≤ 100000002 := by rw [lineSum_cons] at hsum; omega
    have hbq : Below w.heap.size w (w2.alloc (.cells #[.int .i64 0, .slice none 0 0, .string ⟨#[]⟩, .bool head, .bool false] 49)) := hA2.alloc hA2.size _
    have hFq := heap_alloc_new w2 (.cells #[.int .i64 0, .slice none 0 0, .string ⟨#[]⟩, .bool head, .bool false] 49)
    have hbq2 : Below w2.heap.size w2 (w2.alloc (.cells #[.int .i64 0, .slice none 0 0, .string ⟨#[]⟩, .bool head, .bool false] 49)) := (Below.refl _ _).alloc (Nat.le_refl _) _
    have hltq : w2.heap.size < (w2.alloc (.cells #[.int .i64 0, .slice none 0 0, .string ⟨#[]⟩, .bool head, .bool false] 49)).heap.size := by simp
    obtain ⟨q, hq⟩ : ∃ q, q = w2.heap.size := ⟨_, rfl⟩
    rw [← hq] at hFq hbq2 hltq
    have HQ := Lib.hid hq
    clear hR2
    go_wp2_with fail
    rw [← HQ.out]
    generalize (w2.alloc (.cells #[.int .i64 0, .slice none 0 0, .string ⟨#[]⟩, .bool head, .bool false] 49)) = w3 at *
    refine (HAt.out w3 (hE.below hbq)).mono ?_
    rintro e w4 ⟨ev, rfl, -, hb4⟩
    rw [HSt.out]
    have hFq4 := (hb4.block q hltq).trans hFq
    have hFill : Filled w2 (w4.setCell ⟨q, 0, none⟩ (.int .i64 st)) q st head [] false (.slice none 0 0) :=
      ⟨(hbq2.trans (hb4.mono (Nat.le_of_lt hltq))).setCell (Nat.le_refl _) _, heap_setCell_same _ q 0 _ _ _ hFq4, OwnT.nil _ _ _ _⟩
    have c0 := at5 hFq4 0
    have f0 := free5 hFq4 0
    simp only [List.getElem?_toArray, List.getElem?_cons_zero] at c0
    have HF := Lib.hid hFill
    clear hFq hbq hbq2 hltq hb4 hFq4 hFill HAt HSt HPre hl0c
    obtain ⟨ST, hST⟩ : ∃ ST, stepsL ls [] 0 false = ST := ⟨_, rfl⟩
    rw [hST] at HR
    have HST := Lib.hid hST
    clear hST hq
    have hl4b : decide ((first.length : Int) < 4) = false := by simp; omega
    have hl3 : (3 : Int) ≤ first.length := by omega
    have hzq : w.heap.size < q := by rw [HQ.out]; exact hz2
    have hLq : lb < q := by rw [HQ.out]; exact hlb
    have HBk := Lib.hid (fun (wx : World) (h : Below q w2 wx) => hA2.trans (h.mono (Nat.le_of_lt hzq)))
    have HRk := Lib.hid (fun (wx : World) (h : Below q w2 wx) => (h.block w.heap.size hzq).trans HR2'.out)
    have HLk := Lib.hid (fun (wx : World) (h : Below q w2 wx) (k : Nat) (x : List UInt8) (hx : ls[k]? = some x) => (show wx.cell? ⟨lb, 1 + k, none⟩ = some (.string ⟨x.toArray⟩) from by
      obtain ⟨A', cap', hva, _, _, hac⟩ := HVl.out
      injection hva with e1 e2 e3
      subst e1
      obtain ⟨b, o, he, _, hc⟩ := hac (k + 1) x (by simpa using hx)
      injection he with he
      injection he with e4 e5 _
      subst e4 e5
      rw [Nat.zero_add] at hc
      rw [show 1 + k = k + 1 by omega]
      exact (h.cell (p := ⟨lb, k + 1, none⟩) hLq).trans hc))
    obtain ⟨oo, hoo, hsl⟩ := slice_one (ls.length) lb
    have HO := Lib.hid hoo
    clear hz2 hlb HVl HQ hlc hlm
    clear hoo
    go_wp2_with fail
    clear hsl
    clear hl3 hl4b c0 f0 hl0 hl4
    go_loopw [14, 62] (fun t i wr => ∃ (k : Nat) (hs : List HdrT) (n : Nat) (cl : Bool) (hv : Value), k ≤ ls.length ∧ i = .int .i64 k ∧ t = .int .i64 n ∧ Hid (stepsL (ls.drop k) hs n cl = ST) ∧ Filled w2 wr q st head hs cl hv ∧ (hs.flatMap hdrF).length + lineSum (ls.drop k) ≤ 100000002 ∧ hs.length ≤ k ∧ n ≤ 65536) (fun _ i _ => ls.length - (intOf i).toNat)
    case atStart => exact ⟨0, [], 0, false, _, Nat.zero_le _, rfl, rfl, HST, HF.out, by simp; omega, Nat.zero_le _, by omega⟩
    case round =>
      obtain ⟨k, hs, n, cl, hv, hk, rfl, rfl, HK, hF, hsz1, hsk, hn6⟩ := hrel
      obtain ⟨A8, c8, hv8⟩ := ownT_shape hF.own
      rw [List.length_map] at hv8
      subst hv8
      have HFr := Lib.hid hF
      have hqr := hF.lt
      clear hF HF HST
      rcases hd' : ls.drop k with _ | ⟨x, r⟩
      · have hk2 : k = ls.length := by have := drop_nil hd'; omega
        rw [hd'] at HK
        obtain rfl : some (hs, n, cl) = ST := HK.out
        rw [hd'] at hsz1
        clear hd' HK
        subst hk2
        have hfl : (hs.flatMap hdrF).length ≤ 100000002 := Nat.le_trans (Nat.le_add_right _ _) hsz1
        have HFl := Lib.hid hfl
        have HHr := Lib.hid HFr.out.hdrs
        have hq := HFr.out.cells
        have c0 := at5 hq 0
        have c1 := at5 hq 1
        have c2 := at5 hq 2
        have c3 := at5 hq 3
        have c4 := at5 hq 4
        have f2 := free5 hq 2
        replace c0 : wr.cell? ⟨q, 0, none⟩ = some (.int .i64 st) := c0
        replace c1 : wr.cell? ⟨q, 1, none⟩ = some (.slice A8 hs.length c8) := c1
        replace c2 : wr.cell? ⟨q, 2, none⟩ = some (.string ⟨#[]⟩) := c2
        replace c3 : wr.cell? ⟨q, 3, none⟩ = some (.bool head) := c3
        replace c4 : wr.cell? ⟨q, 4, none⟩ = some (.bool cl) := c4
        clear hsz1 hsk
        cases head
        case' false =>
          by_cases hnl : rest.length < n
          case pos =>
            have HN := Lib.hid (show RD = none by rw [HR.out]; exact if_pos ⟨rfl, hnl⟩)
            have HRr := Lib.hid (HRk.out wr HFr.out.below)
            have HBr := Lib.hid (HBk.out wr HFr.out.below)
            clear HR c0 c1 c2 c3 c4 f2 hq
            obtain ⟨y0, y1, y2, y3, y4, z0, z1, z2, z3, z4⟩ := set5_cells (.int .i64 0) (.slice none 0 0) (.string ⟨#[]⟩) (.bool false) HRr.out
            have HR3 := Lib.hid (set5 (.int .i64 0) (.slice none 0 0) (.string ⟨#[]⟩) (.bool false) (.bool false) HRr.out)
            go_wp2
            refine bodyPost_ret (results_ctt rfl _ _ _ _ _ _ _ rfl HR3.out Tryz.underlying49 rfl (by kernel_rfl)) rfl ?_
            exact readF_no HN.out (set5_below HBr.out (Nat.le_refl _) _ _ _ _ _)
          have HEnd := Lib.hid (HR.out.trans (endS_no st buf rest hs n cl hnl))
          have FB := Lib.hid (HFr.out.body (rest.take n))
          have HBx : Below (wr.setCell ⟨q, 2, none⟩ (.string ⟨(rest.take n).toArray⟩)).heap.size (wr.setCell ⟨q, 2, none⟩ (.string ⟨(rest.take n).toArray⟩)) ((wr.setCell ⟨q, 2, none⟩ (.string ⟨(rest.take n).toArray⟩)).alloc (.cells #[.int .i64 st, .slice A8 hs.length c8, .string ⟨(rest.take n).toArray⟩, .bool false, .bool cl] 49)) := (Below.refl _ _).alloc (Nat.le_refl _) _
          have HBx' := Lib.hid HBx
          have FB2 := Lib.hid (FB.out.keep HBx)
          have HWr := Lib.hid (write_any ⟨st, hs, rest.take n, false, cl⟩ (.slice A8 hs.length c8) _ (own_hdrs FB2.out.own) (by show (hs.flatMap hdrF).length ≤ _; omega) (hE.below (HBk.out _ FB2.out.below)))
          unfold respV at HWr
          have HW0 := Lib.hid (@writeS_no ⟨st, hs, rest.take n, false, cl⟩)
          have HW1 := Lib.hid (@writeS_good ⟨st, hs, rest.take n, false, cl⟩)
          simp only at HWr
          generalize writeS ⟨st, hs, rest.take n, false, cl⟩ = WS at *
          generalize goodR ⟨st, hs, rest.take n, false, cl⟩ = G at *
          generalize formR ⟨st, hs, rest.take n, false, cl⟩ = F at *
          clear HBx HR
          go_wp2_with fail
          generalize rest.take n = bd at *
          generalize (wr.setCell ⟨q, 2, none⟩ (.string ⟨bd.toArray⟩)).alloc _ = wz at *
        case' true =>
          by_cases h204 : st = 204
          case' pos =>
            subst h204
            have HEnd := Lib.hid (HR.out.trans (endS_head 204 buf rest hs n cl))
            rw [want_204] at HEnd
            have FB := Lib.hid (HFr.out.body [])
            have HBx : Below (wr.setCell ⟨q, 2, none⟩ (.string ⟨#[]⟩)).heap.size (wr.setCell ⟨q, 2, none⟩ (.string ⟨#[]⟩)) ((wr.setCell ⟨q, 2, none⟩ (.string ⟨#[]⟩)).alloc (.cells #[.int .i64 204, .slice A8 hs.length c8, .string ⟨#[]⟩, .bool true, .bool cl] 49)) := (Below.refl _ _).alloc (Nat.le_refl _) _
            have HBx' := Lib.hid HBx
            have FB2 := Lib.hid (FB.out.keep HBx)
            have HWr := Lib.hid (write_any ⟨204, hs, [], true, cl⟩ (.slice A8 hs.length c8) _ (own_hdrs FB2.out.own) (by show (hs.flatMap hdrF).length ≤ _; omega) (hE.below (HBk.out _ FB2.out.below)))
            unfold respV at HWr
            have HW0 := Lib.hid (@writeS_no ⟨204, hs, [], true, cl⟩)
            have HW1 := Lib.hid (@writeS_good ⟨204, hs, [], true, cl⟩)
            simp only at HWr
            generalize writeS ⟨204, hs, [], true, cl⟩ = WS at *
            generalize goodR ⟨204, hs, [], true, cl⟩ = G at *
            generalize formR ⟨204, hs, [], true, cl⟩ = F at *
            clear HBx HR
            go_wp2_with fail
            generalize ([] : List UInt8) = bd at *
            generalize (wr.setCell ⟨q, 2, none⟩ (.string ⟨bd.toArray⟩)).alloc _ = wz at *
          case' neg =>
            have b1 : (st == 204) = false := by simpa using h204
            have b2 : (st != 204) = true := by simpa using h204
            have HEnd := Lib.hid (HR.out.trans (endS_head st buf rest hs n cl))
            rw [want_head2 h204] at HEnd
            have FB := Lib.hid (HFr.out.body [])
            have HBl := Lib.hid (fun w => blanks_any n w (by omega))
            have hz0 := heap_alloc_new (wr.setCell ⟨q, 2, none⟩ (.string ⟨#[]⟩)) (.cells #[.int .i64 st, .slice A8 hs.length c8, .string ⟨#[]⟩, .bool true, .bool cl] 49)
            have hzl : wr.heap.size < ((wr.setCell ⟨q, 2, none⟩ (.string ⟨#[]⟩)).alloc (.cells #[.int .i64 st, .slice A8 hs.length c8, .string ⟨#[]⟩, .bool true, .bool cl] 49)).heap.size := by simp
            have hzs : (wr.setCell ⟨q, 2, none⟩ (.string ⟨#[]⟩)).heap.size = wr.heap.size := by simp
            rw [hzs] at hz0
            have HBx : Below wr.heap.size (wr.setCell ⟨q, 2, none⟩ (.string ⟨#[]⟩)) ((wr.setCell ⟨q, 2, none⟩ (.string ⟨#[]⟩)).alloc (.cells #[.int .i64 st, .slice A8 hs.length c8, .string ⟨#[]⟩, .bool true, .bool cl] 49)) := (Below.refl _ _).alloc (Nat.le_of_eq hzs.symm) _
            have Hz0 := Lib.hid hz0
            have Hzs := Lib.hid hzs
            clear HR h204 hz0 hzs
            go_wp2_with fail
            generalize (wr.setCell ⟨q, 2, none⟩ (.string ⟨#[]⟩)).alloc _ = wz0 at *
            refine (HBl.out _).mono ?_
            rintro e w6 ⟨rfl, hb6⟩
            have hz6 := (hb6.block _ hzl).trans Hz0.out
            generalize List.replicate n (32 : UInt8) = wb at *
            have v0 := at5 hz6 0
            have v1 := at5 hz6 1
            have v2 := at5 hz6 2
            have v3 := at5 hz6 3
            have v4 := at5 hz6 4
            have g2 := free5 hz6 2
            replace v0 : w6.cell? ⟨wr.heap.size, 0, none⟩ = some (.int .i64 st) := v0
            replace v1 : w6.cell? ⟨wr.heap.size, 1, none⟩ = some (.slice A8 hs.length c8) := v1
            replace v2 : w6.cell? ⟨wr.heap.size, 2, none⟩ = some (.string ⟨#[]⟩) := v2
            replace v3 : w6.cell? ⟨wr.heap.size, 3, none⟩ = some (.bool true) := v3
            replace v4 : w6.cell? ⟨wr.heap.size, 4, none⟩ = some (.bool cl) := v4
            have HBx2 : Below (wr.setCell ⟨q, 2, none⟩ (.string ⟨#[]⟩)).heap.size (wr.setCell ⟨q, 2, none⟩ (.string ⟨#[]⟩)) (w6.setCell ⟨wr.heap.size, 2, none⟩ (.string ⟨wb.toArray⟩)) := by
              rw [Hzs.out]
              exact (HBx.trans (hb6.mono (Nat.le_of_lt hzl))).setCell (Nat.le_refl _) _
            have HBx' := Lib.hid HBx2
            have FB2 := Lib.hid (FB.out.keep HBx2)
            have HWr := Lib.hid (write_any ⟨st, hs, wb, true, cl⟩ (.slice A8 hs.length c8) _ (own_hdrs FB2.out.own) (by show (hs.flatMap hdrF).length ≤ _; omega) (hE.below (HBk.out _ FB2.out.below)))
            unfold respV at HWr
            have HW0 := Lib.hid (@writeS_no ⟨st, hs, wb, true, cl⟩)
            have HW1 := Lib.hid (@writeS_good ⟨st, hs, wb, true, cl⟩)
            simp only at HWr
            generalize writeS ⟨st, hs, wb, true, cl⟩ = WS at *
            generalize goodR ⟨st, hs, wb, true, cl⟩ = G at *
            generalize formR ⟨st, hs, wb, true, cl⟩ = F at *
            clear HBx2 HBx hb6 hz6 c0 c1 c2 c3 c4 f2
            go_wp2_with fail
            generalize ([] : List UInt8) = bd at *
            generalize w6.setCell ⟨wr.heap.size, 2, none⟩ (.string ⟨wb.toArray⟩) = wz at *
        all_goals
          refine HWr.out.mono ?_
          rintro e w7 ⟨rfl, hb7⟩
          have FB7 := Lib.hid (FB.out.keep (HBx'.out.trans (hb7.mono HBx'.out.size)))
          have HRr := Lib.hid (HRk.out w7 FB7.out.below)
          have HBr := Lib.hid (HBk.out w7 FB7.out.below)
          clear FB HBx' FB2 HWr hb7 hqr hq HFr HHr
          cases G
          · obtain rfl : WS = none := HW0.out rfl
            have HN := Lib.hid (show RD = none from HEnd.out)
            clear HEnd HW0 HW1
            unfold wV
            obtain ⟨y0, y1, y2, y3, y4, z0, z1, z2, z3, z4⟩ := set5_cells (.int .i64 0) (.slice none 0 0) (.string ⟨#[]⟩) (.bool false) HRr.out
            have HR3 := Lib.hid (set5 (.int .i64 0) (.slice none 0 0) (.string ⟨#[]⟩) (.bool false) (.bool false) HRr.out)
            go_wp2
            refine bodyPost_ret (results_ctt rfl _ _ _ _ _ _ _ rfl HR3.out Tryz.underlying49 rfl (by kernel_rfl)) rfl ?_
            exact readF_no HN.out (set5_below HBr.out (Nat.le_refl _) _ _ _ _ _)
          · obtain rfl : WS = some F := HW1.out rfl
            have HPf := Lib.hid (fun w => shasPrefix_any buf F w)
            clear HW0 HW1
            unfold wV
            cases hpf : F.isPrefixOf buf
            · rw [hpf] at HPf HEnd
              have HN := Lib.hid (show RD = none from HEnd.out)
              clear HEnd hpf
              go_wp2_with fail
              refine (HPf.out _).mono ?_
              rintro e w8 ⟨rfl, rfl⟩
              obtain ⟨y0, y1, y2, y3, y4, z0, z1, z2, z3, z4⟩ := set5_cells (.int .i64 0) (.slice none 0 0) (.string ⟨#[]⟩) (.bool false) HRr.out
              have HR3 := Lib.hid (set5 (.int .i64 0) (.slice none 0 0) (.string ⟨#[]⟩) (.bool false) (.bool false) HRr.out)
              go_wp2
              refine bodyPost_ret (results_ctt rfl _ _ _ _ _ _ _ rfl HR3.out Tryz.underlying49 rfl (by kernel_rfl)) rfl ?_
              exact readF_no HN.out (set5_below HBr.out (Nat.le_refl _) _ _ _ _ _)
            · rw [hpf] at HPf HEnd
              have HY := Lib.hid (HEnd.out.trans (if_pos rfl))
              clear HEnd hpf
              go_wp2_with fail
              refine (HPf.out _).mono ?_
              rintro e w8 ⟨rfl, rfl⟩
              have hq7 := FB7.out.cells
              have x0 := at5 hq7 0
              have x1 := at5 hq7 1
              have x2 := at5 hq7 2
              have x3 := at5 hq7 3
              have x4 := at5 hq7 4
              simp only [List.getElem?_toArray, List.getElem?_cons_zero, List.getElem?_cons_succ] at x0 x1 x2 x3 x4
              obtain ⟨y0, y1, y2, y3, y4, z0, z1, z2, z3, z4⟩ := FB7.out.put HRr.out
              have HR3 := Lib.hid (FB7.out.put5 HRr.out)
              have HO5 := Lib.hid (FB7.out.putOwn (Nat.lt_succ_of_lt hzq))
              clear hq7
              go_wp2
              refine bodyPost_ret (results_ctt rfl _ _ _ _ _ _ _ rfl HR3.out Tryz.underlying49 rfl (by kernel_rfl)) rfl ?_
              exact readF_yes HY.out (set5_below HBr.out (Nat.le_refl _) _ _ _ _ _) (own_hdrs HO5.out) (fun b hb => by have := (HO5.out.lt b hb).1; omega)
      · obtain ⟨hlt, hx, hr⟩ := drop_consA hd'
        obtain rfl : oo = 1 := HO.out (by omega)
        have hxc := HLk.out wr HFr.out.below k x hx
        rw [hd', lineSum_cons] at hsz1
        rw [hd', stepsL_cons] at HK
        have Hr := Lib.hid hr
        clear hd' hr hx
        have HCx := Lib.hid (scut_any x [58, 32] wr (by omega) (hE.below (HBk.out wr HFr.out.below)))
        have k1 : (k : Int) < ls.length := by omega
        rcases hcx : cutS [58, 32] x with _ | ⟨nm, vl⟩
        · rw [hcx] at HCx
          have hst : stepL x hs n cl = none := by unfold stepL; rw [hcx]
          rw [hst] at HK
          have HN := Lib.hid (show RD = none by rw [HR.out, ← HK.out]; rfl)
          clear hcx hst HK HR
          go_wp2_with fail
          refine HCx.out.mono ?_
          rintro e w5 ⟨rfl, hb5⟩
          have HF5 := HFr.out.keep hb5
          have HRr := Lib.hid (HRk.out w5 HF5.below)
          have HBr := Lib.hid (HBk.out w5 HF5.below)
          clear hb5 HF5 hxc
          unfold cutT
          obtain ⟨y0, y1, y2, y3, y4, z0, z1, z2, z3, z4⟩ := set5_cells (.int .i64 0) (.slice none 0 0) (.string ⟨#[]⟩) (.bool false) HRr.out
          have HR3 := Lib.hid (set5 (.int .i64 0) (.slice none 0 0) (.string ⟨#[]⟩) (.bool false) (.bool false) HRr.out)
          go_wp2
          refine bodyPost_ret (results_ctt rfl _ _ _ _ _ _ _ rfl HR3.out Tryz.underlying49 rfl (by kernel_rfl)) rfl ?_
          exact readF_no HN.out (set5_below HBr.out (Nat.le_refl _) _ _ _ _ _)
        · rw [hcx] at HCx
          have hln := congrArg List.length (cut_len hcx)
          simp only [List.length_append, List.length_cons, List.length_nil] at hln
          have hlnm : nm.length + vl.length + 2 ≤ x.length := by omega
          have HHl := Lib.hid (hdrF_cut hcx)
          have hst : stepL x hs n cl = if x = closeL then some (hs, n, true) else if nm = nLen then (lengthS vl).map fun m => (hs, m, cl) else some (hs ++ [⟨nm, vl⟩], n, cl) := by unfold stepL; rw [hcx]
          rw [hst] at HK
          clear hcx hst hln
          go_wp2_with fail
          refine HCx.out.mono ?_
          rintro e w5 ⟨rfl, hb5⟩
          unfold cutT
          have HF5 := Lib.hid (HFr.out.keep hb5)
          clear hb5 hxc HCx
          by_cases q1 : x = closeL
          · rw [if_pos q1] at HK
            have HK2 := Lib.hid (show stepsL r hs n true = ST from HK.out)
            have e1 : (x == [67, 111, 110, 110, 101, 99, 116, 105, 111, 110, 58, 32, 99, 108, 111, 115, 101]) = true := by rw [beq_iff_eq]; exact q1
            have c4 := at5 HF5.out.cells 4
            have f4 := free5 HF5.out.cells 4
            replace c4 : w5.cell? ⟨q, 4, none⟩ = some (.bool cl) := c4
            clear HK q1
            go_wp2
            refine ⟨⟨k + 1, hs, n, true, _, by omega, by go_num, rfl, by rw [Hr.out]; exact HK2, HF5.out.close, by rw [Hr.out]; omega, by omega, hn6⟩, ?_⟩
            simp [intOf]; omega
          · rw [if_neg q1] at HK
            have e1 : (x == [67, 111, 110, 110, 101, 99, 116, 105, 111, 110, 58, 32, 99, 108, 111, 115, 101]) = false := by rw [beq_eq_false_iff_ne]; exact q1
            clear q1
            by_cases q2 : nm = nLen
            · rw [if_pos q2] at HK
              have e2 : (nm == [67, 111, 110, 116, 101, 110, 116, 45, 76, 101, 110, 103, 116, 104]) = true := by rw [beq_iff_eq]; exact q2
              have HLn := Lib.hid (length_any vl w5 (by omega) (hE.below (HBk.out w5 HF5.out.below)))
              have HLy := Lib.hid (fun m => @length_yes vl m)
              unfold LenP at HLn
              clear q2
              generalize lengthS vl = LL at *
              rcases LL with _ | m
              · have HN := Lib.hid (show RD = none by rw [HR.out, ← HK.out]; rfl)
                clear HK HR
                go_wp2_with fail
                refine HLn.out.mono ?_
                rintro e w6 ⟨nn, rfl, -, hb6⟩
                have HF6 := HF5.out.keep hb6
                have HRr := Lib.hid (HRk.out w6 HF6.below)
                have HBr := Lib.hid (HBk.out w6 HF6.below)
                clear hb6 HF6
                obtain ⟨y0, y1, y2, y3, y4, z0, z1, z2, z3, z4⟩ := set5_cells (.int .i64 0) (.slice none 0 0) (.string ⟨#[]⟩) (.bool false) HRr.out
                have HR3 := Lib.hid (set5 (.int .i64 0) (.slice none 0 0) (.string ⟨#[]⟩) (.bool false) (.bool false) HRr.out)
                go_wp2
                refine bodyPost_ret (results_ctt rfl _ _ _ _ _ _ _ rfl HR3.out Tryz.underlying49 rfl (by kernel_rfl)) rfl ?_
                exact readF_no HN.out (set5_below HBr.out (Nat.le_refl _) _ _ _ _ _)
              · have HK2 := Lib.hid (show stepsL r hs m cl = ST from HK.out)
                have hm6 := (HLy.out m rfl).1
                clear HK
                go_wp2_with fail
                refine HLn.out.mono ?_
                rintro e w6 ⟨nn, rfl, hnn, hb6⟩
                obtain rfl := hnn m rfl
                have HF6 := Lib.hid (HF5.out.keep hb6)
                clear hb6 hnn HLy
                go_wp2
                refine ⟨⟨k + 1, hs, m, cl, _, by omega, by go_num, rfl, by rw [Hr.out]; exact HK2, HF6.out, by rw [Hr.out]; omega, by omega, hm6⟩, ?_⟩
                simp [intOf]; omega
            · rw [if_neg q2] at HK
              have e2 : (nm == [67, 111, 110, 116, 101, 110, 116, 45, 76, 101, 110, 103, 116, 104]) = false := by rw [beq_eq_false_iff_ne]; exact q2
              have HK2 := Lib.hid (show stepsL r (hs ++ [⟨nm, vl⟩]) n cl = ST from HK.out)
              have c1 := at5 HF5.out.cells 1
              have f1 := free5 HF5.out.cells 1
              replace c1 : w5.cell? ⟨q, 1, none⟩ = some (.slice A8 hs.length c8) := c1
              have hzw := HF5.out.lt
              have HBD := Lib.hid (show ((hs.map hcells).length + 1) * 32 ≤ 140737488355328 by rw [List.length_map]; omega)
              have HWB := Lib.hid (show q + 1 ≤ w5.heap.size from hzw)
              have HCN := Lib.hid (fun (w' : World) (h : Below (q + 1) w5 w') => (show w'.cell? ⟨q, 1, none⟩ = some (.slice A8 hs.length c8) ∧ w'.frozen? ⟨q, 1, none⟩ = false from ⟨(h.cell (p := ⟨q, 1, none⟩) (Nat.lt_succ_self q)).trans c1, (h.frozen (p := ⟨q, 1, none⟩) (Nat.lt_succ_self q)).trans f1⟩))
              clear HK q2 f1
              go_wp2_with (at_builtin; go_must (refine wpList_appRec elemH rfl (.tmp 73) (.tmp 77) rfl (q + 1) (hs.map hcells) #[.string ⟨nm.toArray⟩, .string ⟨vl.toArray⟩] _ rfl HF5.out.own w5.heap.size rfl rfl rfl (hcells_one ⟨nm, vl⟩) HBD.out HWB.out ?_); intro v' w' hown' hb' hg' hblk'; obtain ⟨A9, c9, hv9⟩ := ownT_shape hown'; rw [List.length_append, List.length_map] at hv9; subst hv9; obtain ⟨hc', hf'⟩ := HCN.out _ hb')
              refine ⟨⟨k + 1, hs ++ [⟨nm, vl⟩], n, cl, _, by omega, by go_num, rfl, by rw [Hr.out]; exact HK2, HF5.out.app ⟨nm, vl⟩ hown' hb', by rw [Hr.out, flat_app, HHl.out]; omega, by rw [List.length_append, List.length_singleton]; omega, hn6⟩, ?_⟩
              simp [intOf]; omega
theorem read_any (buf : List UInt8) (head : Bool) (w : World) (hbuf : buf.length ≤ 100000000) (hE : Env w) :
    Calls Tryz.prog 27 #[.string ⟨buf.toArray⟩, .bool head] w (ReadP (readR stS buf head) w) := (read_fresh buf head w hbuf hE).mono fun _ _ h => readF_P h
end Go.Proofs.YtlkbfehdiopkbaaGreatDoor

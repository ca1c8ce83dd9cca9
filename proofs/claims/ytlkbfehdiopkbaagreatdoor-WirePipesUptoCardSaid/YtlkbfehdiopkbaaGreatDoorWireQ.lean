/-
  The walks of a connection: Closed, Feed, Next. Conditions: the connection lies in a block of its own; the bytes are fewer than a hundred million; what the listed variables hold.
-/
import Derived.Test.YtlkbfehdiopkbaaGreatDoorWireK
import Derived.Test.YtlkbfehdiopkbaaGreatDoorRepL
namespace Go.Proofs.YtlkbfehdiopkbaaGreatDoor
set_option linter.unusedVariables false
set_option linter.unusedSimpArgs false
open Go.RowKit

/-- the connection in block c: the bytes that are left; is it closed? -/
def CN (w : World) (c : Nat) (buf : List UInt8) (cl : Bool) : Prop := w.heap[c]? = some (.cells #[.string ⟨buf.toArray⟩, .bool cl] 43 (0, 0))
section
variable {w w' : World} {c : Nat} {buf : List UInt8} {cl : Bool}
theorem CN.lt (h : CN w c buf cl) : c < w.heap.size := (Array.getElem?_eq_some_iff.1 h).1
theorem CN.keep (h : CN w c buf cl) (hb : Below w.heap.size w w') : CN w' c buf cl := (hb.block c h.lt).trans h
theorem CN.alloc (h : CN w c buf cl) (o : Obj) : CN (w.alloc o) c buf cl := (heap_alloc_old w o h.lt).trans h
theorem CN.c0 (h : CN w c buf cl) : w.cell? ⟨c, 0, none⟩ = some (.string ⟨buf.toArray⟩) := wat h 0
theorem CN.c1 (h : CN w c buf cl) : w.cell? ⟨c, 1, none⟩ = some (.bool cl) := wat h 1
theorem CN.f0 (h : CN w c buf cl) : w.frozen? ⟨c, 0, none⟩ = false := wfree h 0
theorem CN.f1 (h : CN w c buf cl) : w.frozen? ⟨c, 1, none⟩ = false := wfree h 1
theorem CN.set0 (h : CN w c buf cl) (b2 : List UInt8) : CN (w.setCell ⟨c, 0, none⟩ (.string ⟨b2.toArray⟩)) c b2 cl := heap_setCell_same w c 0 _ _ _ h
theorem CN.set1 (h : CN w c buf cl) (b2 : Bool) : CN (w.setCell ⟨c, 1, none⟩ (.bool b2)) c buf b2 := heap_setCell_same w c 1 _ _ _ h
theorem CN.draws (h : CN w c buf cl) (n : Nat) : CN (w.drewN n) c buf cl := h
end
set_option maxHeartbeats 400000 in
set_option maxRecDepth 100000 in
set_option linter.unusedSimpArgs false in
theorem conn_closed (c : Nat) (buf : List UInt8) (cl : Bool) (w : World) (h : CN w c buf cl) : Calls Tryz.prog 19 #[.pointer (some ⟨c, 0, none⟩)] w (Same0 (.bool cl) w) := by
  have c1 := h.c1
  clear h
  go_enter Tryz.func19, Tryz.ntmps19
  go_wp2
  go_ret
  exact ⟨rfl, rfl⟩
set_option maxHeartbeats 400000 in
set_option maxRecDepth 100000 in
set_option linter.unusedSimpArgs false in
theorem conn_feed (c : Nat) (buf d : List UInt8) (w : World) (h : CN w c buf false) (hl : buf.length + d.length ≤ 100000000) : Calls Tryz.prog 17 #[.pointer (some ⟨c, 0, none⟩), .string ⟨d.toArray⟩] w (fun e w' => e = .returned (.tuple #[]) ∧ CN w' c (buf ++ d) false ∧ w.grownBy w' (some c)) := by
  have c0 := h.c0
  have c1 := h.c1
  have f0 := h.f0
  have HS := Lib.hid (h.set0 (buf ++ d))
  clear h
  go_enter Tryz.func17, Tryz.ntmps17
  go_wp2
  go_end0
  exact ⟨rfl, HS.out, grown_cell _ _ _ _⟩
/-- what Next hands back and leaves. -/
def NextP (c : Nat) (buf : List UInt8) (x : Rd1 ReqT) (w : World) (e : Ending) (w' : World) : Prop :=
  w.grownBy w' (some c) ∧ match x with
    | .error st => e = .returned (.tuple #[zeroQ, .int .i64 0, .bool false]) ∧ CN w' c buf false
    | .ok (q, r) => ∃ hv, e = .returned (.tuple #[reqV q hv, .int .i64 0, .bool true]) ∧ Hdrs w' hv q.hdrs ∧ CN w' c (if q.close then [] else r) q.close
theorem next_mem {w w2 wC : World} {c : Nat} {b2 : List UInt8} {cl : Bool} {hv x0 x1 x2 x3 x4 : Value} {hs : List HdrT} (hcl : c < w.heap.size) (HB2 : Below w.heap.size w w2) (hq : w2.heap[w.heap.size]? = some (.cells #[x0, x1, x2, x3, x4] 26 (0, 0)))
    (hg : w2.grownBy wC (some c)) (hC : CN wC c b2 cl) (hh : Hdrs w2 hv hs) (hb : ∀ k, hv.ownBlock = some k → w.heap.size < k) (y0 y1 y2 y3 y4 : Value) (o : Obj) :
    w.grownBy ((setQ wC w.heap.size y0 y1 y2 y3 y4).alloc o) (some c) ∧ Hdrs ((setQ wC w.heap.size y0 y1 y2 y3 y4).alloc o) hv hs ∧ CN ((setQ wC w.heap.size y0 y1 y2 y3 y4).alloc o) c b2 cl ∧
      ((setQ wC w.heap.size y0 y1 y2 y3 y4).alloc o).heap[w.heap.size]? = some (.cells #[y0, y1, y2, y3, y4] 26 (0, 0)) := by
  have hne : c ≠ w.heap.size := by omega
  have hql := (Array.getElem?_eq_some_iff.1 hq).1
  have hqC := (hg.block w.heap.size hql (fun e => hne (by injection e with e; exact e.symm))).trans hq
  have s0 : (setQ wC w.heap.size y0 y1 y2 y3 y4).heap[w.heap.size]? = _ := set5 y0 y1 y2 y3 y4 hqC
  have T : Two w.heap.size w.heap.size wC (setQ wC w.heap.size y0 y1 y2 y3 y4) := (((((Two.refl _ _ wC).setq 0 _).setq 1 _).setq 2 _).setq 3 _).setq 4 _
  have hC4 : CN (setQ wC w.heap.size y0 y1 y2 y3 y4) c b2 cl := (setQ_other wC w.heap.size c y0 y1 y2 y3 y4 hne).trans hC
  have ho := fun k => setQ_other wC w.heap.size k y0 y1 y2 y3 y4
  generalize setQ wC w.heap.size y0 y1 y2 y3 y4 = w4 at *
  have hq4 := (Array.getElem?_eq_some_iff.1 s0).1
  have g1 : wC.grownBy w4 (some w.heap.size) := ⟨T.os, T.tape, T.output, T.size, fun k hk hn => ho k (fun e => hn (by rw [e]))⟩
  have g2 : w.grownBy w4 (some c) := ⟨T.os.trans (hg.os.trans HB2.os), T.tape.trans (hg.tape.trans HB2.tape), T.output.trans (hg.output.trans HB2.output), Nat.le_trans HB2.size (Nat.le_trans hg.size T.size), fun k hk hn =>
    (ho k (by omega)).trans ((hg.block k (Nat.lt_of_lt_of_le hk HB2.size) hn).trans (HB2.block k hk))⟩
  have hh4 : Hdrs w4 hv hs := Tab.grown (Tab.grown hh hg (fun b hb' e => by have := hb b hb'; injection e with e; omega) (fun _ _ _ h => h)) g1 (fun b hb' e => by have := hb b hb'; injection e with e; omega) (fun _ _ _ h => h)
  exact ⟨grown_tr g2 (Below.toGrown ((Below.refl _ _).alloc (Nat.le_refl _) o) _), hh4.alloc' o, hC4.alloc o, (heap_alloc_old w4 o hq4).trans s0⟩
set_option maxHeartbeats 4000000 in
set_option maxRecDepth 100000 in
set_option linter.unusedSimpArgs false in
theorem conn_next (c : Nat) (buf : List UInt8) (w : World) (h : CN w c buf false) (hl : buf.length ≤ 100000000) (hx : ∀ st, readW buf = .error st → st = -1) (hE : Env w) :
    Calls Tryz.prog 18 #[.pointer (some ⟨c, 0, none⟩)] w (NextP c buf (readW buf) w) := by
  have HR := Lib.hid (fun w' (hb : Below w.heap.size w w') => wread_any buf w' hl (hE.below hb))
  have h1 := h.alloc (.cells #[.string ⟨#[]⟩, .string ⟨#[]⟩, .slice none 0 0, .string ⟨#[]⟩, .bool false] 26 (0, 0))
  have hb1 : Below w.heap.size w (w.alloc (.cells #[.string ⟨#[]⟩, .string ⟨#[]⟩, .slice none 0 0, .string ⟨#[]⟩, .bool false] 26 (0, 0))) := (Below.refl _ _).alloc (Nat.le_refl _) _
  have hq1 := heap_alloc_new w (.cells #[.string ⟨#[]⟩, .string ⟨#[]⟩, .slice none 0 0, .string ⟨#[]⟩, .bool false] 26 (0, 0))
  have hcl := h.lt
  have HCl := Lib.hid (conn_closed c buf false _ h1)
  have H1 := Lib.hid h1
  have HB1 := Lib.hid hb1
  have HQ1 := Lib.hid hq1
  have c0 := h1.c0
  clear hE h h1 hb1 hq1
  go_enter Tryz.func18, Tryz.ntmps18
  go_wp2_with fail
  generalize w.alloc (.cells #[.string ⟨#[]⟩, .string ⟨#[]⟩, .slice none 0 0, .string ⟨#[]⟩, .bool false] 26 (0, 0)) = w1 at *
  refine HCl.out.mono ?_
  rintro e wx ⟨rfl, rfl⟩
  clear HCl
  go_wp2_with fail
  refine (HR.out w1 HB1.out).mono ?_
  rintro e w2 ⟨hb2, hx2⟩
  have hq2 := (hb2.block _ (Array.getElem?_eq_some_iff.1 HQ1.out).1).trans HQ1.out
  have hC2 := H1.out.keep hb2
  have HB2 := Lib.hid (HB1.out.trans (hb2.mono HB1.out.size))
  have q0 := wat hq2 0
  have q1 := wat hq2 1
  have q2 := wat hq2 2
  have q3 := wat hq2 3
  have q4 := wat hq2 4
  have fq0 := wfree hq2 0
  have fq1 := wfree hq2 1
  have fq2 := wfree hq2 2
  have fq3 := wfree hq2 3
  have fq4 := wfree hq2 4
  simp only [List.getElem?_toArray, List.getElem?_cons_zero, List.getElem?_cons_succ] at q0 q1 q2 q3 q4
  have hne : c ≠ w.heap.size := by omega
  have hql := (Array.getElem?_eq_some_iff.1 hq2).1
  have HQ2 := Lib.hid hq2
  have HC2 := Lib.hid hC2
  have hqs := (Array.getElem?_eq_some_iff.1 HQ1.out).1
  clear H1 HB1 HQ1 hb2 c0 hq2 hC2
  rcases hr : readW buf with st | ⟨q, r⟩
  · obtain rfl := hx st hr
    rw [hr] at hx2
    subst hx2
    unfold zeroQ
    have HZ := Lib.hid (set5 (.string ⟨#[]⟩) (.string ⟨#[]⟩) (.slice none 0 0) (.string ⟨#[]⟩) (.bool false) HQ2.out)
    have HB4 := Lib.hid (set5_below HB2.out (Nat.le_refl _) (.string ⟨#[]⟩) (.string ⟨#[]⟩) (.slice none 0 0) (.string ⟨#[]⟩) (.bool false))
    have HC4 := Lib.hid ((setQ_other w2 w.heap.size c (.string ⟨#[]⟩) (.string ⟨#[]⟩) (.slice none 0 0) (.string ⟨#[]⟩) (.bool false) hne).trans HC2.out)
    unfold setQ at HC4
    have HRr := Lib.hid hr
    clear hr hx HR
    go_wp2
    generalize ((((w2.setCell ⟨w.heap.size, 0, none⟩ (.string ⟨#[]⟩)).setCell ⟨w.heap.size, 1, none⟩ (.string ⟨#[]⟩)).setCell ⟨w.heap.size, 2, none⟩ (.slice none 0 0)).setCell ⟨w.heap.size, 3, none⟩ (.string ⟨#[]⟩)).setCell ⟨w.heap.size, 4, none⟩ (.bool false) = w4 at *
    have hql4 := (Array.getElem?_eq_some_iff.1 HZ.out).1
    have HC5 : CN w4 c buf false := HC4.out
    refine bodyPost_ret (results_ctt rfl _ _ _ _ _ _ _ rfl ((heap_alloc_old w4 _ hql4).trans HZ.out) Tryz.underlying26 rfl (by kernel_rfl)) rfl ?_
    unfold NextP
    rw [HRr.out]
    exact ⟨Below.toGrown (HB4.out.alloc HB4.out.size _) _, rfl, HC5.alloc _⟩
  · rw [hr] at hx2
    obtain ⟨v1, rfl, ho⟩ := hx2
    have hh1 := own_hdrs ho
    have hh1' := hh1
    obtain ⟨A1, k1, rfl, -, -, -⟩ := hh1'
    obtain ⟨u, hu, -⟩ := readW_front.ok _ _ _ hr
    obtain ⟨U, hU⟩ : ∃ U : Nat, U = u.length := ⟨_, rfl⟩
    have hlen : buf.length = U + r.length := by rw [hu, List.length_append, hU]
    have hdr : buf.drop U = r := by rw [hu, hU, List.drop_left]
    have e1 : ((buf.length : Int) - r.length) = (U : Int) := by omega
    rw [e1]
    have HD := Lib.hid hdr
    have HH := Lib.hid hh1
    have u1 : (U : Int) ≤ buf.length := by omega
    have u2 : (0 : Int) ≤ (U : Int) := by omega
    have hcl2 : c < w2.heap.size := HC2.out.lt
    have HN := Lib.hid (fun k (hk : (Value.slice A1 q.hdrs.length k1).ownBlock = some k) => Nat.lt_of_lt_of_le hqs ((ho.lt k hk).1))
    have HRr := Lib.hid hr
    clear hu hU hdr hlen e1 hr hx HR hh1 ho
    have c0 := HC2.out.c0
    have c1 := HC2.out.c1
    have f0 := HC2.out.f0
    have f1 := HC2.out.f1
    obtain ⟨m, t, hs, b, cl⟩ := q
    unfold reqV
    simp only at HH HN ⊢
    cases cl
    · have HM := Lib.hid (next_mem (x0 := .string ⟨#[]⟩) (x1 := .string ⟨#[]⟩) (x2 := .slice none 0 0) (x3 := .string ⟨#[]⟩) (x4 := .bool false) hcl HB2.out HQ2.out (grown_tr (grown_cell w2 c 0 (.string ⟨(buf.drop U).toArray⟩)) (grown_cell _ c 1 (.bool false))) ((HC2.out.set0 (buf.drop U)).set1 false) HH.out HN.out (.string ⟨m.toArray⟩) (.string ⟨t.toArray⟩) (.slice A1 hs.length k1) (.string ⟨b.toArray⟩) (.bool false)
        (.cells #[.string ⟨m.toArray⟩, .string ⟨t.toArray⟩, .slice A1 hs.length k1, .string ⟨b.toArray⟩, .bool false] 26 (0, 0)))
      unfold setQ at HM
      go_wp2
      obtain ⟨z1, z2, z3, z4⟩ := HM.out
      refine bodyPost_ret (results_ctt rfl _ _ _ _ _ _ _ rfl z4 Tryz.underlying26 rfl (by kernel_rfl)) rfl ?_
      unfold NextP
      rw [HRr.out]
      exact ⟨z1, _, rfl, z2, by rw [← HD.out]; exact z3⟩
    · have HM := Lib.hid (next_mem (x0 := .string ⟨#[]⟩) (x1 := .string ⟨#[]⟩) (x2 := .slice none 0 0) (x3 := .string ⟨#[]⟩) (x4 := .bool false) hcl HB2.out HQ2.out (grown_tr (grown_tr (grown_cell w2 c 0 (.string ⟨(buf.drop U).toArray⟩)) (grown_cell _ c 1 (.bool true))) (grown_cell _ c 0 (.string ⟨#[]⟩))) (((HC2.out.set0 (buf.drop U)).set1 true).set0 []) HH.out HN.out (.string ⟨m.toArray⟩) (.string ⟨t.toArray⟩) (.slice A1 hs.length k1) (.string ⟨b.toArray⟩) (.bool true)
        (.cells #[.string ⟨m.toArray⟩, .string ⟨t.toArray⟩, .slice A1 hs.length k1, .string ⟨b.toArray⟩, .bool true] 26 (0, 0)))
      unfold setQ at HM
      go_wp2
      obtain ⟨z1, z2, z3, z4⟩ := HM.out
      refine bodyPost_ret (results_ctt rfl _ _ _ _ _ _ _ rfl z4 Tryz.underlying26 rfl (by kernel_rfl)) rfl ?_
      unfold NextP
      rw [HRr.out]
      exact ⟨z1, _, rfl, z2, z3⟩
end Go.Proofs.YtlkbfehdiopkbaaGreatDoor

/-
  The walks of cond's reader: condition, list. Condition: the reader lies in a block of its own; what it holds is shorter than a million bytes.
-/
import Derived.Test.YthfdhanhkanhhaaDoorCondP
namespace Go.Proofs.YthfdhanhkanhhaaDoor
open Go.RowKit

theorem asc1 : ∀ (i : Nat) b, ([60] : List UInt8)[i]? = some b → b.toNat < 128 := by
  intro i b h
  match i with
  | 0 => simp at h; subst h; decide
  | i + 1 => simp at h
theorem asc0 : ∀ (i : Nat) b, ([] : List UInt8)[i]? = some b → b.toNat < 128 := by
  intro i b h
  simp at h
def condV (c : CondT) : Value := .agg #[.bool c.neg, .string ⟨c.tok.toArray⟩, .string ⟨c.etag.toArray⟩]
theorem ne_of_lt' {a b : Nat} (h : a < b) : b ≠ a := by omega
theorem grown_high {w w' : World} {row : Option Nat} {a : Addr} (h : w.grownBy w' row) (hc : w.heap.size ≤ a.block) (v : Value) : w.grownBy (w'.setCell a v) row :=
  ⟨h.os, h.tape, h.output, by rw [World.size_setCell]; exact h.size, fun k hk hne => (heap_setCell_other w' a k v (by omega)).trans (h.block k hk hne)⟩
theorem setCell_id {w : World} {b i : Nat} {cs : Array Value} {t : TypeId} {v : Value} (h : w.heap[b]? = some (.cells cs t (0, 0))) (hv : cs[i]? = some v) : w.setCell ⟨b, i, none⟩ v = w := by
  have hlt : b < w.heap.size := (Array.getElem?_eq_some_iff.1 h).1
  have h2 := heap_setCell_same w b i cs t v h
  have he : cs.setIfInBounds i v = cs := by
    obtain ⟨hi, hi2⟩ := Array.getElem?_eq_some_iff.1 hv
    apply Array.ext_getElem?
    intro j
    rw [Array.getElem?_setIfInBounds]
    split
    · rename_i hj; subst hj; exact hv.symm
    · rfl
  have hheap : (w.setCell ⟨b, i, none⟩ v).heap = w.heap := by
    apply Array.ext_getElem?
    intro k
    by_cases hk : k = b
    · subst hk; rw [h2, h, he]
    · exact heap_setCell_other w _ k v hk
  have e1 : (w.setCell ⟨b, i, none⟩ v) = { w with heap := (w.setCell ⟨b, i, none⟩ v).heap } := rfl
  rw [e1, hheap]
/-- the condition under way lies in block b. -/
def CB (w : World) (b : Nat) (c : CondT) : Prop := w.heap[b]? = some (.cells #[.bool c.neg, .string ⟨c.tok.toArray⟩, .string ⟨c.etag.toArray⟩] 48 (0, 0))
/-- a call under way: the reader in block r, a condition in block b of its own. -/
structure St (w0 : World) (r b : Nat) (s : List UInt8) (c : CondT) (w : World) : Prop where
  lo : r < w0.heap.size
  hi : w0.heap.size ≤ b
  rdr : Rdr w r s
  cb : CB w b c
  gr : w0.grownBy w (some r)
section
variable {w0 w w' : World} {r b : Nat} {s s' : List UInt8} {c : CondT}
theorem St.start (h : Rdr w r s) : St w r w.heap.size s ⟨false, [], []⟩ (w.alloc (.cells #[.bool false, .string ⟨#[]⟩, .string ⟨#[]⟩] 48)) :=
  ⟨h.lt, Nat.le_refl _, h.alloc _, heap_alloc_new w _, World.grownBy_alloc w _ _⟩
theorem St.call (h : St w0 r b s c w) (h1 : Rdr w' r s') (hg : w.grownBy w' (some r)) : St w0 r b s' c w' := by
  have := h.lo
  have := h.hi
  have hlt : b < w.heap.size := (Array.getElem?_eq_some_iff.1 h.cb).1
  exact ⟨h.lo, h.hi, h1, (hg.block b hlt (by intro e; injection e with e; omega)).trans h.cb, grown_trans h.gr hg⟩
theorem St.set (h : St w0 r b s c w) (i : Nat) (v : Value) (c' : CondT) (he : (#[.bool c.neg, .string ⟨c.tok.toArray⟩, .string ⟨c.etag.toArray⟩] : Array Value).setIfInBounds i v = #[.bool c'.neg, .string ⟨c'.tok.toArray⟩, .string ⟨c'.etag.toArray⟩]) : St w0 r b s c' (w.setCell ⟨b, i, none⟩ v) := by
  have := h.lo
  have := h.hi
  refine ⟨h.lo, h.hi, ?_, ?_, grown_high h.gr h.hi v⟩
  · exact (heap_setCell_other w ⟨b, i, none⟩ r v (by show r ≠ b; omega)).trans h.rdr
  · have := heap_setCell_same w b i _ _ v h.cb
    rw [he] at this
    exact this
theorem St.c0 (h : St w0 r b s c w) : w.cell? ⟨b, 0, none⟩ = some (.bool c.neg) := by rw [cell_of_row w b 0 _ _ _ h.cb]; rfl
theorem St.c1 (h : St w0 r b s c w) : w.cell? ⟨b, 1, none⟩ = some (.string ⟨c.tok.toArray⟩) := by rw [cell_of_row w b 1 _ _ _ h.cb]; rfl
theorem St.c2 (h : St w0 r b s c w) : w.cell? ⟨b, 2, none⟩ = some (.string ⟨c.etag.toArray⟩) := by rw [cell_of_row w b 2 _ _ _ h.cb]; rfl
theorem St.fz (h : St w0 r b s c w) (i : Nat) : w.frozen? ⟨b, i, none⟩ = false := by
  have hc : w.heap[b]? = _ := h.cb
  unfold World.frozen?; simp [hc]
theorem St.i0 (h : St w0 r b s c w) : w.setCell ⟨b, 0, none⟩ (.bool c.neg) = w := setCell_id h.cb rfl
theorem St.i1 (h : St w0 r b s c w) : w.setCell ⟨b, 1, none⟩ (.string ⟨c.tok.toArray⟩) = w := setCell_id h.cb rfl
theorem St.i2 (h : St w0 r b s c w) : w.setCell ⟨b, 2, none⟩ (.string ⟨c.etag.toArray⟩) = w := setCell_id h.cb rfl
end
theorem results_ct {P : Program} {fn : Func} {p u : Tmp} {ty : TypeId} (h : fn.results = #[.cell p ty, .tmp u]) (tmps : Array Value) (w : World) (g : Nat) (t : TypeId) (cs : Array Value) (fr : Nat × Nat) (d : TypeDesc)
    (hp : tmps.getD p undef = .pointer (some ⟨g, 0, none⟩)) (hg : w.heap[g]? = some (.cells cs t fr))
    (hu : P.underlying ty = some d) (hd : (match d with | .struct _ | .array _ _ => true | _ => false) = true) (hi : (P.info? ty).map (·.size) = some cs.size) :
    (results fn tmps).run P w = .ok (.tuple #[.agg cs, tmps.getD u undef]) w := by
  rw [results_cell_tmp h, hp]
  simp [asAddr, run_loadVar_row w g t ty cs fr d hg hu hd hi]
theorem cond_ret {r b : Nat} {s : List UInt8} {c : CondT} {w0 w : World} (S : St w0 r b s c w) (tmps : Array Value) (v : Bool) (hp : tmps.getD 2 undef = .pointer (some ⟨b, 0, none⟩)) (hv : tmps.getD 3 undef = .bool v) :
    (results Tryd.f65 tmps).run Tryd.prog w = .ok (.tuple #[condV c, .bool v]) w := by
  rw [results_ct (P := Tryd.prog) rfl tmps w b _ _ _ _ hp S.cb Tryd.underlying48 rfl (by kernel_rfl), hv]
  rfl
set_option maxHeartbeats 1000000 in
set_option maxRecDepth 100000 in
set_option linter.unusedSimpArgs false in
theorem condition_any (r : Nat) (s : List UInt8) (w : World) (h : Rdr w r s) (hs : s.length ≤ maxLen) :
    Calls Tryd.prog 65 #[.pointer (some ⟨r, 0, none⟩)] w (RdS (.tuple #[condV (condS s).1, .bool (condS s).2.1]) r (condS s).2.2 w) := by
  have S0 := Lib.hid (St.start h)
  clear h
  have l1 := eatR_len wNot s
  have l2 := eatR_len [60] (eatR wNot s)
  have l3 := eatR_len [91] (eatR [60] (eatR wNot s))
  have E1 := Lib.hid (fun w h => eat_any r wNot s w h)
  have HA : ∀ b1 s1 b2 s2 b3 s3 o2 o3, eatB wNot s = b1 → eatR wNot s = s1 → eatB [60] s1 = b2 → eatR [60] s1 = s2 → eatB [91] s2 = b3 → eatR [91] s2 = s3 → betwS 62 [60] 33 s2 = o2 → betwS 93 [] 32 s3 = o3 →
      condS s = (if b2 then match o2 with
          | some (t, q) => (⟨b1, t, []⟩, true, q)
          | none => (⟨b1, [], []⟩, false, s2)
        else if b3 then match o3 with
          | some (t, q) => (⟨b1, [], t⟩, true, q)
          | none => (⟨b1, [], []⟩, false, s3)
        else (⟨b1, [], []⟩, false, s3)) := by
    rintro _ _ _ _ _ _ _ _ rfl rfl rfl rfl rfl rfl rfl rfl
    rfl
  generalize condS s = R at HA
  have HA2 := HA _ _ _ _ _ _ _ _ rfl rfl rfl rfl rfl rfl rfl rfl
  clear HA
  generalize eatR wNot s = s1 at *
  generalize eatB wNot s = b1 at *
  have E2 := Lib.hid (fun w h => eat_any r [60] s1 w h)
  generalize eatR [60] s1 = s2 at *
  have E3 := Lib.hid (fun w h => eat_any r [91] s2 w h)
  generalize eatR [91] s2 = s3 at *
  generalize eatB [60] s1 = b2 at *
  generalize eatB [91] s2 = b3 at *
  have B2 := Lib.hid (fun w h => between_any r s2 [60] 62 33 w h (by omega) asc1 (by decide))
  have B3 := Lib.hid (fun w h => between_any r s3 [] 93 32 w h (by omega) asc0 (by decide))
  generalize betwS 62 [60] 33 s2 = o2 at *
  generalize betwS 93 [] 32 s3 = o3 at *
  have HR := Lib.hid HA2
  clear HA2 hs l1 l2 l3
  go_enter Tryd.func65, Tryd.ntmps65
  go_wp2_with fail
  refine (E1.out _ S0.out.rdr).mono ?_
  rintro e w1 ⟨rfl, h1, g1⟩
  have S1 := Lib.hid (S0.out.call h1 g1)
  have c1 := S1.out.c0
  have f1 := S1.out.fz 0
  have S1' := Lib.hid (S1.out.set 0 (.bool b1) ⟨b1, [], []⟩ rfl)
  clear h1 g1 S0 E1
  generalize hb : w.heap.size = b at *
  go_wp2_with fail
  clear c1 f1
  refine (E2.out _ S1'.out.rdr).mono ?_
  rintro e w2 ⟨rfl, h2, g2⟩
  have S2 := Lib.hid (S1'.out.call h2 g2)
  clear h2 g2 E2 S1 S1'
  cases b2
  · go_wp2_with fail
    refine (E3.out _ S2.out.rdr).mono ?_
    rintro e w3 ⟨rfl, h3, g3⟩
    have S3 := Lib.hid (S2.out.call h3 g3)
    clear h3 g3 E3 S2
    cases b3
    · have c0 := S3.out.c0
      have c1 := S3.out.c1
      have c2 := S3.out.c2
      have f0 := S3.out.fz 0
      have f1 := S3.out.fz 1
      have f2 := S3.out.fz 2
      have i0 := S3.out.i0
      have i1 := S3.out.i1
      have i2 := S3.out.i2
      simp only at c0 c1 c2 i0 i1 i2
      have hR : R = (⟨b1, [], []⟩, false, s3) := HR.out
      subst hR
      go_wp2
      refine bodyPost_ret (cond_ret S3.out _ false rfl rfl) rfl ?_
      exact ⟨rfl, S3.out.rdr, S3.out.gr⟩
    · have B3' := B3.out _ S3.out.rdr
      clear B2 B3
      rcases o3 with _ | ⟨t, q⟩
      · have hR : R = (⟨b1, [], []⟩, false, s3) := HR.out
        subst hR
        simp only [betwV, betwR] at B3'
        go_wp2_with fail
        refine B3'.mono ?_
        rintro e w4 ⟨rfl, h4, g4⟩
        have S4 := Lib.hid (S3.out.call h4 g4)
        clear h4 g4 S3
        have c0 := S4.out.c0
        have c1 := S4.out.c1
        have c2 := S4.out.c2
        have f0 := S4.out.fz 0
        have f1 := S4.out.fz 1
        have f2 := S4.out.fz 2
        have i0 := S4.out.i0
        have i1 := S4.out.i1
        have i2 := S4.out.i2
        simp only at c0 c1 c2 i0 i1 i2
        go_wp2
        refine bodyPost_ret (cond_ret S4.out _ false rfl rfl) rfl ?_
        exact ⟨rfl, S4.out.rdr, S4.out.gr⟩
      · have hR : R = (⟨b1, [], t⟩, true, q) := HR.out
        subst hR
        simp only [betwV, betwR] at B3'
        go_wp2_with fail
        refine B3'.mono ?_
        rintro e w4 ⟨rfl, h4, g4⟩
        have S4 := Lib.hid (S3.out.call h4 g4)
        clear h4 g4 S3
        have S5 := Lib.hid (S4.out.set 2 (.string ⟨t.toArray⟩) ⟨b1, [], t⟩ rfl)
        have d2 := S4.out.c2
        have g2 := S4.out.fz 2
        simp only at d2
        have c0 := S5.out.c0
        have c1 := S5.out.c1
        have c2 := S5.out.c2
        have f0 := S5.out.fz 0
        have f1 := S5.out.fz 1
        have f2 := S5.out.fz 2
        have i0 := S5.out.i0
        have i1 := S5.out.i1
        have i2 := S5.out.i2
        simp only at c0 c1 c2 i0 i1 i2
        go_wp2
        refine bodyPost_ret (cond_ret S5.out _ true rfl rfl) rfl ?_
        exact ⟨rfl, S5.out.rdr, S5.out.gr⟩
  · have B2' := B2.out _ S2.out.rdr
    clear B2 B3
    rcases o2 with _ | ⟨t, q⟩
    · have hR : R = (⟨b1, [], []⟩, false, s2) := HR.out
      subst hR
      simp only [betwV, betwR] at B2'
      go_wp2_with fail
      refine B2'.mono ?_
      rintro e w4 ⟨rfl, h4, g4⟩
      have S4 := Lib.hid (S2.out.call h4 g4)
      clear h4 g4 S2
      have c0 := S4.out.c0
      have c1 := S4.out.c1
      have c2 := S4.out.c2
      have f0 := S4.out.fz 0
      have f1 := S4.out.fz 1
      have f2 := S4.out.fz 2
      have i0 := S4.out.i0
      have i1 := S4.out.i1
      have i2 := S4.out.i2
      simp only at c0 c1 c2 i0 i1 i2
      go_wp2
      refine bodyPost_ret (cond_ret S4.out _ false rfl rfl) rfl ?_
      exact ⟨rfl, S4.out.rdr, S4.out.gr⟩
    · have hR : R = (⟨b1, t, []⟩, true, q) := HR.out
      subst hR
      simp only [betwV, betwR] at B2'
      go_wp2_with fail
      refine B2'.mono ?_
      rintro e w4 ⟨rfl, h4, g4⟩
      have S4 := Lib.hid (S2.out.call h4 g4)
      clear h4 g4 S2
      have S5 := Lib.hid (S4.out.set 1 (.string ⟨t.toArray⟩) ⟨b1, t, []⟩ rfl)
      have d2 := S4.out.c1
      have g2 := S4.out.fz 1
      simp only at d2
      have c0 := S5.out.c0
      have c1 := S5.out.c1
      have c2 := S5.out.c2
      have f0 := S5.out.fz 0
      have f1 := S5.out.fz 1
      have f2 := S5.out.fz 2
      have i0 := S5.out.i0
      have i1 := S5.out.i1
      have i2 := S5.out.i2
      simp only at c0 c1 c2 i0 i1 i2
      go_wp2
      refine bodyPost_ret (cond_ret S5.out _ true rfl rfl) rfl ?_
      exact ⟨rfl, S5.out.rdr, S5.out.gr⟩
end Go.Proofs.YthfdhanhkanhhaaDoor

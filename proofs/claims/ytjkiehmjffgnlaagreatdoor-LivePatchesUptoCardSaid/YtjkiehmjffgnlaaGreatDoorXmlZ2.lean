import Derived.Test.YtjkiehmjffgnlaaGreatDoorTrod
import Derived.Test.YtjkiehmjffgnlaaGreatDoorXmlZ1
import Derived.Test.YtjkiehmjffgnlaaGreatDoorShelfP
import Derived.Deep.DeepHandedRow
import Derived.Lib.LaidU8T
import Derived.Stop.LaidErr
import Derived.PinnedBridge
import Derived.Lay
import Derived.MakeChecks
import Derived.Test.YtjkiehmjffgnlaaGreatDoorTab
import Derived.Test.YtjkiehmjffgnlaaGreatDoorElem
import Derived.Lib.ConvBytes
import Derived.Lib.AtoiErrMem
namespace Go.Proofs.YtjkiehmjffgnlaaGreatDoor
open Go.ChangeShapes Go.WideShapes Go.ChangeAt Go.RowKit Go.Deep

theorem own : ownKnob Tryz.prog.godebug = none := by kernel_rfl
theorem laidOut : laidOutB Tryz.prog = true := by kernel_rfl
theorem u8x : U8Extra Tryz.prog Tryz.lays260_ren := {
  n3 := by kernel_rfl
  n4 := by kernel_rfl
  y3 := by kernel_rfl
  y4 := by kernel_rfl
  c5 := by kernel_rfl
  c119 := by kernel_rfl
  c138 := by kernel_rfl }
theorem accept_eq : (Rows.laid_unicode_utf8_acceptRanges : DataW Unit) = Lib.acceptData := by kernel_rfl
theorem pow_eq : (Rows.laid_internal_strconv_uint64pow10 : DataW Unit) = Lib.tabData .u64 Lib.pow10Tab := by kernel_rfl
theorem first_eq : Rows.laid_unicode_utf8_first = Lib.firstData := by
  unfold Rows.laid_unicode_utf8_first
  exact Pinned.utf8First_eq
theorem fold_eq : (Rows.laid_unicode_asciiFold : DataW Unit) = Lib.tabData .u16 foldTab := by kernel_rfl
/-- a variable that reads asz an interface value holds one. -/
theorem iface_var {P : Program} {W : World} {n nm : String} {d : DataW Unit} {g : Nat} {ti : TypeId} {ms : Array (String × TypeId)} (hg : P.globalNamed n = some g) (hty : (P.globals[g]?).map (·.type) = some ti) (hi : P.underlying ti = some (.interface ms))
    (h : Lib.VarReads P W n (.iface nm d)) : ∃ t p, W.var? P n = some #[.iface t p] := by
  obtain ⟨g', t', cs, fuel, p, h1, h2, h3, h4⟩ := h
  obtain rfl := Option.some.inj (hg.symm.trans h1)
  obtain rfl := Option.some.inj (hty.symm.trans h2)
  cases fuel with
  | zero => simp [DataW.trod] at h4
  | succ fuel =>
    rw [DataW.trod_step] at h4
    unfold DataW.trodStep at h4
    simp only [hi] at h4
    obtain ⟨l⟩ := cs
    rcases l with _ | ⟨x, _ | ⟨y, r⟩⟩
    · simp at h4
    · cases x <;> simp at h4
      exact ⟨_, _, h3⟩
    · simp at h4
theorem env_of {W : World} (h0 : laidMetH Tryz.prog Rows.livePatchesRow.laid W) (hsh : W.ShapedOpen Tryz.prog) : XEnv W := by
  have h : laidMet Tryz.prog [("math/bits.deBruijn32tab", Rows.laid_math_bits_deBruijn32tab), ("math/bits.deBruijn64tab", Rows.laid_math_bits_deBruijn64tab), ("internal/strconv.uint64pow10", Rows.laid_internal_strconv_uint64pow10), ("unicode/utf8.acceptRanges", Rows.laid_unicode_utf8_acceptRanges), ("strconv.ErrRange", Rows.laid_strconv_ErrRange), ("strconv.ErrSyntax", Rows.laid_strconv_ErrSyntax), ("unicode.asciiFold", Rows.laid_unicode_asciiFold), ("unicode.caseOrbit", Rows.laid_unicode_caseOrbit), ("unicode.CaseRanges", Rows.laid_unicode_CaseRanges), ("unicode/utf8.first", Rows.laid_unicode_utf8_first)] W := by
    rw [MakeChecks.laidMetH_plain _ _ _ (by kernel_rfl)] at h0
    exact h0
  have rf := Lib.laidMet.reads h (n := "unicode/utf8.first") (d := Rows.laid_unicode_utf8_first) (by simp)
  have ra := Lib.laidMet.reads h (n := "unicode/utf8.acceptRanges") (d := Rows.laid_unicode_utf8_acceptRanges) (by simp)
  rw [first_eq] at rf
  rw [accept_eq] at ra
  have h7 := laidMet.tail (laidMet.tail (laidMet.tail (laidMet.tail (laidMet.tail (laidMet.tail h)))))
  rw [fold_eq] at h7
  have hfold := Lib.tabIs_of_head (g := 6) (t := 210) (n := 128) (by kernel_rfl) (by kernel_rfl) Tryz.underlying210 Tryz.underlying209 (by kernel_rfl) (by kernel_rfl) h7
  have e5 := iface_var (g := 10) (ti := 124) (by kernel_rfl) (by kernel_rfl) Tryz.underlying124 (Lib.laidMet.reads h (n := "strconv.ErrRange") (d := Rows.laid_strconv_ErrRange) (by simp))
  have e6 := iface_var (g := 9) (ti := 124) (by kernel_rfl) (by kernel_rfl) Tryz.underlying124 (Lib.laidMet.reads h (n := "strconv.ErrSyntax") (d := Rows.laid_strconv_ErrSyntax) (by simp))
  exact ⟨⟨utf8Tabs_of_readsT (U8Types.of260 Tryz.lays260) u8x rf ra, cell_of_shapedOpen_int (zero := #[.int .i64 0]) (t := 3) hsh (of_decide_eq_true (by kernel_rfl)) (by kernel_rfl) rfl (by kernel_rfl) (by kernel_rfl) Tryz.underlying3⟩, hfold, e6, e5⟩
noncomputable def laidWorld (os : Os) : World := World.laidAll Tryz.prog os Rows.livePatchesRow.laid
theorem laidWorld_os (os : Os) : (laidWorld os).os = os := World.laidAll_os _ _ _
theorem laidWorld_met (os : Os) (args : Array Value) : laidMet Tryz.prog Rows.livePatchesRow.laid ((laidWorld os).forCall (fun _ _ => 0) ⟨#[], args, []⟩).memory :=
  laidMet_laidAll args (by kernel_rfl) (by kernel_rfl)
theorem witness_sh {H : Type} {enc : TypeId × Value → H} {C : Checked} {os : Os} {f : FuncId} {fn : Func} {s : OpenSpec} {conds : List PathCond} {apart : Bool} {laid : List (String × DataW Unit)} (w0 : World) (args : Array Value) (hos : w0.os = os)
    (hsh : (w0.forCall (fun _ _ => 0) ⟨#[], args, []⟩).Shaped C.prog)
    (hok : Input.okWideB C.prog (w0.forCall (fun _ _ => 0) ⟨#[], args, []⟩) f ⟨#[], args, []⟩ = true)
    (hrow : s.preRow enc C.prog fn conds apart laid (w0.forCall (fun _ _ => 0) ⟨#[], args, []⟩).memory args) :
    ∃ (w : World) (tape : Tape) (i : Input), w.os = os ∧ (w.forCall tape i).Shaped C.prog ∧ i.vars = [] ∧ Input.okWide C.prog (w.forCall tape i) .any w.heap.size f i ∧
      s.preRow enc C.prog fn conds apart laid (w.forCall tape i).memory i.args ∧ ({ modest := false } : Assume).holds C.prog (lone (Frame.enter C.prog f i.args .normal) [] (w.forCall tape i)) :=
  ⟨w0, fun _ _ => 0, ⟨#[], args, []⟩, hos, hsh, (Input.okWide_of_okWideB (base := 0) hok).1, (Input.okWide_of_okWideB hok).2, hrow, by
    simp only [Assume.holds]
    exact ⟨by simp, by simp, fun _ => Modest.zero, by simp, by simp⟩⟩

theorem read_str : Tryz.prog.readableRec 9 = true := by kernel_rfl
theorem row_str : 9 < Tryz.prog.types.size := of_decide_eq_true (by kernel_rfl)
theorem read_bool : Tryz.prog.readableRec 4 = true := by kernel_rfl
theorem row_bool : 4 < Tryz.prog.types.size := of_decide_eq_true (by kernel_rfl)
theorem read_u16 : Tryz.prog.readableRec 209 = true := by kernel_rfl
theorem row_u16 : 209 < Tryz.prog.types.size := of_decide_eq_true (by kernel_rfl)
theorem read_u8 : Tryz.prog.readableRec 5 = true := by kernel_rfl
theorem row_u8 : 5 < Tryz.prog.types.size := of_decide_eq_true (by kernel_rfl)
end Go.Proofs.YtjkiehmjffgnlaaGreatDoor
namespace Go.Proofs.YtjkiehmjffgnlaaGreatDoor
set_option linter.unusedVariables false
set_option linter.unusedSimpArgs false
open Go.RowKit

def BW (w : World) (g : Nat) (l : List UInt8) : Prop := g < w.heap.size ∧ ∀ j b, l[j]? = some b → w.cell? ⟨g, j, none⟩ = some (.int .u8 b.toNat) ∧ w.frozen? ⟨g, j, none⟩ = false
theorem BW.below {w w' : World} {g : Nat} {l : List UInt8} (h : BW w g l) (hb : Below w.heap.size w w') : BW w' g l :=
  ⟨Nat.lt_of_lt_of_le h.1 hb.size, fun j b hj => ⟨(hb.cell (p := ⟨g, j, none⟩) h.1).trans (h.2 j b hj).1, (hb.frozen (p := ⟨g, j, none⟩) h.1).trans (h.2 j b hj).2⟩⟩
theorem BW.set {w : World} {g : Nat} {l : List UInt8} (h : BW w g l) (k : Nat) (c : UInt8) (hk : k < l.length) : BW (w.setCell ⟨g, k, none⟩ (.int .u8 c.toNat)) g (l.set k c) := by
  refine ⟨by rw [show (w.setCell ⟨g, k, none⟩ (.int .u8 c.toNat)).heap.size = w.heap.size by simp]; exact h.1, fun j b hj => ?_⟩
  rw [World.frozen?_setCell]
  by_cases he : k = j
  · subst he
    rw [List.getElem?_set_self hk] at hj
    injection hj with hj
    subst hj
    have := h.2 k _ (List.getElem?_eq_getElem hk)
    exact ⟨World.cell?_setCell_same _ _ _ this.1, this.2⟩
  · rw [List.getElem?_set_ne he] at hj
    rw [World.cell?_setCell_other _ _ _ _ (by intro h; injection h with _ h _; exact he h)]
    exact h.2 j b hj
theorem BW.rd {w : World} {g : Nat} {l : List UInt8} (h : BW w g l) (cap : Nat) (h1 : l.length ≤ cap) (h2 : cap ≤ maxLen) : RdL w (.slice (some ⟨g, 0, none⟩) l.length cap) (vbytes l) :=
  ⟨some ⟨g, 0, none⟩, cap, by rw [vbytes_len], by rw [vbytes_len]; exact h1, h2, fun j u hj => by
    unfold vbytes at hj
    rw [List.getElem?_map] at hj
    obtain ⟨b, hb, rfl⟩ := Option.map_eq_some_iff.1 hj
    exact ⟨g, 0, rfl, h.1, by rw [Nat.zero_add]; exact (h.2 j b hb).1⟩⟩
theorem BW.lit (w : World) (l : List UInt8) : BW (w.alloc (.cells (vbytes l).toArray 5)) w.heap.size l := by
  refine ⟨by simp, fun j b hj => ⟨?_, ?_⟩⟩
  · rw [cell_new]
    unfold vbytes
    simp [hj]
  · have h := heap_alloc_new w (.cells (vbytes l).toArray 5)
    unfold World.frozen?
    rw [h]
    simp
theorem conv_string (w : World) (l : List UInt8) : (convert 9 116 (.string ⟨l.toArray⟩)).run Tryz.prog w = .ok (.slice (some ⟨w.heap.size, 0, none⟩) l.length (grownCap w l.length 0 5)) (Lib.bytesWorld w 5 ⟨l.toArray⟩) :=
  Lib.run_convert_string_bytes w _ _ 5 ⟨l.toArray⟩ Tryz.underlying9 Tryz.underlying116 Tryz.underlying5
theorem bytes_bw (w : World) (l : List UInt8) : BW (Lib.bytesWorld w 5 ⟨l.toArray⟩) w.heap.size l := by
  refine ⟨by rw [Lib.bytesWorld_size]; omega, fun j b hj => ⟨?_, ?_⟩⟩
  · have hlt := (List.getElem?_eq_some_iff.1 hj).1
    rw [Lib.bytesWorld_cell w 5 ⟨l.toArray⟩ j hlt, List.getD_eq_getElem?_getD]
    show some (Value.int .u8 ((l[j]?).getD 0).toNat) = _
    rw [hj]
    rfl
  · have hlt := (List.getElem?_eq_some_iff.1 hj).1
    unfold World.frozen?
    simp only [Lib.bytesWorld_at_new]
    have hs : l.length ≤ (Lib.bytesCells w 5 ⟨l.toArray⟩).size := by
      unfold Lib.bytesCells
      simp
    simp
    omega
theorem bytes_below (w : World) (l : List UInt8) : Below w.heap.size w (Lib.bytesWorld w 5 ⟨l.toArray⟩) := Lib.bytesWorld_below _ _ _
end Go.Proofs.YtjkiehmjffgnlaaGreatDoor
namespace Go.Proofs.YtjkiehmjffgnlaaGreatDoor
set_option linter.unusedVariables false
set_option linter.unusedSimpArgs false

section
variable {α β : Type}
theorem thenX_some {x : X1 α} {f : α → List UInt8 → X1 β} {b : β} {r : List UInt8} (h : thenX x f = some (b, r)) : ∃ a q, x = some (a, q) ∧ f a q = some (b, r) := by
  rcases x with _ | ⟨a, q⟩
  · cases h
  · exact ⟨a, q, rfl, h⟩
theorem thenX_mk (a : α) (r : List UInt8) (f : α → List UInt8 → X1 β) : thenX (some (a, r)) f = f a r := rfl
theorem thenX_congr {x y : X1 α} {f g : α → List UInt8 → X1 β} (h : x = y) (hf : ∀ a r, y = some (a, r) → f a r = g a r) : thenX x f = thenX y g := by
  subst h
  rcases x with _ | ⟨a, r⟩
  · rfl
  · exact hf a r rfl
end
theorem eatX_some {w s r : List UInt8} {u : Unit} (h : eatX w s = some (u, r)) : s = w ++ r := by
  unfold eatX at h
  split at h
  · rename_i hp
    injection h with h
    injection h with h1 h2
    rw [List.isPrefixOf_iff_prefix] at hp
    obtain ⟨t, ht⟩ := hp
    rw [← h2, ← ht]
    simp
  · cases h
theorem eatX_app (w r : List UInt8) : eatX w (w ++ r) = some ((), r) := by
  unfold eatX
  rw [if_pos (List.isPrefixOf_iff_prefix.2 (List.prefix_append w r))]
  simp
theorem cut_some {w s a b : List UInt8} (h : cutS w s = some (a, b)) : s = a ++ (w ++ b) := by
  have := index_cut w s
  rw [h] at this
  exact this.2
theorem prefix_app {w s : List UInt8} (h : w.isPrefixOf s = true) (t : List UInt8) : w.isPrefixOf (s ++ t) = true := by
  rw [List.isPrefixOf_iff_prefix] at h ⊢
  obtain ⟨q, rfl⟩ := h
  exact ⟨q ++ t, by simp⟩
theorem cut_app {w : List UInt8} (t : List UInt8) : ∀ {s a b : List UInt8}, cutS w s = some (a, b) → cutS w (s ++ t) = some (a, b ++ t)
  | [], a, b, h => by
    unfold cutS at h
    split at h
    · rename_i hw
      injection h with h
      injection h with h1 h2
      subst hw h1 h2
      cases t <;> rfl
    · cases h
  | x :: s, a, b, h => by
    have hl := congrArg List.length (cut_some h)
    unfold cutS at h
    rw [List.cons_append]
    unfold cutS
    by_cases hp : w.isPrefixOf (x :: s) = true
    · rw [if_pos hp] at h
      have hp2 := prefix_app hp t
      rw [List.cons_append] at hp2
      rw [if_pos hp2]
      injection h with h
      injection h with h1 h2
      subst h1 h2
      rw [← List.cons_append, List.drop_append_of_le_length]
      rw [List.isPrefixOf_iff_prefix] at hp
      exact hp.length_le
    · rw [if_neg hp] at h
      obtain ⟨⟨p, q⟩, hc, hpq⟩ := Option.map_eq_some_iff.1 h
      injection hpq with h1 h2
      subst h1 h2
      have e := cut_some hc
      have hp2 : ¬ w.isPrefixOf (x :: (s ++ t)) = true := by
        intro hq
        apply hp
        rw [List.isPrefixOf_iff_prefix] at hq ⊢
        have hw : w.length ≤ (x :: s).length := by rw [e]; simp; omega
        rw [← List.cons_append] at hq
        exact List.prefix_of_prefix_length_le hq (List.prefix_append _ _) hw
      rw [if_neg hp2, cut_app t hc]
      rfl
theorem cut_len2 {w s a b : List UInt8} (h : cutS w s = some (a, b)) : b.length + w.length ≤ s.length := by
  rw [cut_some h]
  simp
  omega
theorem white_le (s : List UInt8) : (whiteX s).length ≤ s.length := by
  unfold whiteX
  exact (List.dropWhile_suffix _).length_le
theorem dropW_app {p : UInt8 → Bool} {s : List UInt8} (h : s.dropWhile p ≠ []) (t : List UInt8) : (s ++ t).dropWhile p = s.dropWhile p ++ t ∧ (s ++ t).takeWhile p = s.takeWhile p := by
  induction s with
  | nil => exact absurd rfl h
  | cons x s ih =>
    rw [List.cons_append, List.dropWhile_cons, List.dropWhile_cons, List.takeWhile_cons, List.takeWhile_cons]
    by_cases hx : p x = true
    · rw [List.dropWhile_cons, if_pos hx] at h
      obtain ⟨h1, h2⟩ := ih h
      rw [if_pos hx, if_pos hx, if_pos hx, if_pos hx, h1, h2]
      exact ⟨rfl, rfl⟩
    · rw [if_neg hx, if_neg hx, if_neg hx, if_neg hx]
      exact ⟨rfl, rfl⟩
theorem white_app {s : List UInt8} (h : whiteX s ≠ []) (t : List UInt8) : whiteX (s ++ t) = whiteX s ++ t := (dropW_app h t).1
theorem takeW_drop (p : UInt8 → Bool) (s : List UInt8) : (s.takeWhile p).length + (s.dropWhile p).length = s.length := by
  rw [← List.length_append, List.takeWhile_append_dropWhile]
theorem nameX_some {s a r : List UInt8} (h : nameX s = some (a, r)) : s = a ++ r ∧ nameOk a = true ∧ a = s.takeWhile othC ∧ r = s.dropWhile othC := by
  unfold nameX at h
  split at h
  · rename_i hn
    injection h with h
    injection h with h1 h2
    refine ⟨?_, by rw [← h1]; exact hn, h1.symm, h2.symm⟩
    rw [← h1, ← h2, List.takeWhile_append_dropWhile]
  · cases h
theorem nameOk_ne {a : List UInt8} (h : nameOk a = true) : a ≠ [] := by
  intro e; subst e; cases h
theorem nameX_len {s a r : List UInt8} (h : nameX s = some (a, r)) : r.length < s.length := by
  obtain ⟨h1, h2, -, -⟩ := nameX_some h
  have := List.length_pos_iff.2 (nameOk_ne h2)
  rw [h1, List.length_append]
  omega
theorem nameX_app {s a r : List UInt8} (h : nameX s = some (a, r)) (hr : r ≠ []) (t : List UInt8) : nameX (s ++ t) = some (a, r ++ t) := by
  obtain ⟨h1, h2, h3, h4⟩ := nameX_some h
  rw [h4] at hr
  obtain ⟨e1, e2⟩ := dropW_app hr t
  unfold nameX
  rw [e1, e2, ← h3, ← h4, if_pos h2]
theorem eat_no {w s : List UInt8} (h : eatX w s = none) (hs : w.length ≤ s.length) (t : List UInt8) : eatX w (s ++ t) = none := by
  unfold eatX at h ⊢
  split at h
  · cases h
  · rename_i hp
    rw [if_neg]
    intro hq
    apply hp
    rw [List.isPrefixOf_iff_prefix] at hq ⊢
    exact List.prefix_of_prefix_length_le hq (List.prefix_append _ _) hs
theorem qnameX_len {s r : List UInt8} {pl : List UInt8 × List UInt8} (h : qnameX s = some (pl, r)) : r.length < s.length := by
  unfold qnameX at h
  obtain ⟨a, q, h1, h2⟩ := thenX_some h
  have l1 := nameX_len h1
  split at h2
  · injection h2 with h2
    injection h2 with h2 h3
    rw [← h3]; exact l1
  · rename_i q2 he
    obtain ⟨b, q3, h3, h4⟩ := thenX_some h2
    have l2 := nameX_len h3
    have l3 := congrArg List.length (eatX_some he)
    injection h4 with h4
    injection h4 with h4 h5
    rw [← h5]
    simp at l3
    omega
theorem qnameX_app {s r : List UInt8} {pl : List UInt8 × List UInt8} (h : qnameX s = some (pl, r)) (hr : r ≠ []) (t : List UInt8) : qnameX (s ++ t) = some (pl, r ++ t) := by
  unfold qnameX at h ⊢
  obtain ⟨a, q, h1, h2⟩ := thenX_some h
  split at h2
  · rename_i he
    injection h2 with h2
    injection h2 with h2 h3
    subst h2 h3
    rw [nameX_app h1 hr, thenX_mk, eat_no he (List.length_pos_iff.2 hr)]
  · rename_i q2 he
    obtain ⟨b, q3, h3, h4⟩ := thenX_some h2
    injection h4 with h4
    injection h4 with h4 h5
    subst h4 h5
    have e := eatX_some he
    have hq : q ≠ [] := by rw [e]; simp
    rw [nameX_app h1 hq, thenX_mk, e, List.append_assoc, eatX_app]
    show thenX (nameX (q2 ++ t)) _ = _
    rw [nameX_app h3 hr]
    rfl
theorem skipX_true {s r : List UInt8} (h : skipX s = some (true, r)) : r.length < s.length ∧ ∀ t, skipX (s ++ t) = some (true, r ++ t) := by
  unfold skipX at h ⊢
  split at h
  · rename_i r1 he
    obtain ⟨a, q, h1, h2⟩ := thenX_some h
    obtain ⟨u, q2, h3, h4⟩ := thenX_some h2
    injection h4 with h4
    injection h4 with _ h5
    subst h5
    have e := eatX_some he
    have e2 := eatX_some h3
    have l1 := cut_len2 h1
    refine ⟨by rw [e]; rw [e2] at l1; simp at l1 ⊢; omega, fun t => ?_⟩
    rw [e, List.append_assoc, eatX_app]
    show thenX (cutS [45, 45] (r1 ++ t)) _ = _
    rw [cut_app t h1, thenX_mk, e2, List.append_assoc, eatX_app]
    rfl
  · rename_i he
    split at h
    · rename_i r1 he2
      obtain ⟨n, q, h1, h2⟩ := thenX_some h
      split at h2
      · cases h2
      · rename_i hf
        obtain ⟨a, q2, h3, h4⟩ := thenX_some h2
        injection h4 with h4
        injection h4 with _ h5
        subst h5
        have e := eatX_some he2
        have l1 := nameX_len h1
        have l2 := cut_len2 h3
        have hq : q ≠ [] := by intro e0; rw [e0] at h3; cases h3
        refine ⟨by rw [e]; simp at l2 ⊢; omega, fun t => ?_⟩
        have hno : eatX wCom (s ++ t) = none := by
          rw [e]
          show eatX wCom (60 :: 63 :: (r1 ++ t)) = none
          unfold eatX wCom
          rw [if_neg]
          simp [List.isPrefixOf]
        rw [hno]
        show (match eatX [60, 63] (s ++ t) with
          | some (_, r) => thenX (nameX r) fun n r => if foldX n then none else thenX (cutS [63, 62] r) fun _ r => some (true, r)
          | none => some (false, s ++ t)) = _
        rw [e, List.append_assoc, eatX_app]
        show thenX (nameX (r1 ++ t)) _ = _
        rw [nameX_app h1 hq, thenX_mk, if_neg hf, cut_app t h3]
        rfl
    · injection h with h
      injection h with h _
      cases h
theorem skipX_false {s r : List UInt8} (h : skipX s = some (false, r)) : r = s ∧ wCom.isPrefixOf s = false ∧ [60, 63].isPrefixOf s = false := by
  unfold skipX at h
  split at h
  · obtain ⟨a, q, h1, h2⟩ := thenX_some h
    obtain ⟨u, q2, h3, h4⟩ := thenX_some h2
    injection h4 with h4
    injection h4 with h4 _
    cases h4
  · rename_i he
    split at h
    · obtain ⟨n, q, h1, h2⟩ := thenX_some h
      split at h2
      · cases h2
      · obtain ⟨a, q2, h3, h4⟩ := thenX_some h2
        injection h4 with h4
        injection h4 with h4 _
        cases h4
    · rename_i he2
      injection h with h
      injection h with _ h
      have no : ∀ w, eatX w s = none → w.isPrefixOf s = false := fun w hw => by
        unfold eatX at hw
        split at hw
        · cases hw
        · rename_i hp; exact Bool.eq_false_iff.2 hp
      exact ⟨h.symm, no _ he, no _ he2⟩
theorem skipX_other {s : List UInt8} (h1 : wCom.isPrefixOf s = false) (h2 : [60, 63].isPrefixOf s = false) : skipX s = some (false, s) := by
  have no : ∀ w, w.isPrefixOf s = false → eatX w s = none := fun w hw => by
    unfold eatX
    rw [hw]
    rfl
  unfold skipX
  rw [no _ h1, no _ h2]
theorem refX_ok {s t r : List UInt8} (h : refX s = some (t, r)) : r.length < s.length ∧ ∀ q, refX (s ++ q) = some (t, r ++ q) := by
  unfold refX at h ⊢
  obtain ⟨w, r1, h1, h2⟩ := thenX_some h
  split at h2
  · cases h2
  · rename_i t1 he
    injection h2 with h2
    injection h2 with h2 h3
    subst h2 h3
    have l1 := cut_len2 h1
    refine ⟨by simp at l1; omega, fun q => ?_⟩
    rw [cut_app q h1, thenX_mk, he]
theorem valueX_ok {s t r : List UInt8} (h : valueX s = some (t, r)) : r.length < s.length ∧ ∀ q, valueX (s ++ q) = some (t, r ++ q) := by
  unfold valueX at h ⊢
  obtain ⟨v, r1, h1, h2⟩ := thenX_some h
  split at h2
  · cases h2
  · rename_i t1 he
    injection h2 with h2
    injection h2 with h2 h3
    subst h2 h3
    rcases hq : eatX [39] s with _ | ⟨u, r2⟩
    · rw [hq] at h1
      obtain ⟨u, q, h3, h4⟩ := thenX_some h1
      have e := eatX_some h3
      have l1 := cut_len2 h4
      refine ⟨by rw [e]; simp at l1 ⊢; omega, fun q' => ?_⟩
      have hno : eatX [39] (s ++ q') = none := eat_no hq (by rw [e]; simp) q'
      rw [hno, e, List.append_assoc, eatX_app]
      show thenX (thenX (some ((), q ++ q')) _) _ = _
      rw [thenX_mk, cut_app q' h4, thenX_mk, he]
    · rw [hq] at h1
      have e := eatX_some hq
      have l1 := cut_len2 h1
      refine ⟨by rw [e]; simp at l1 ⊢; omega, fun q' => ?_⟩
      rw [e, List.append_assoc, eatX_app]
      show thenX (cutS [39] (r2 ++ q')) _ = _
      rw [cut_app q' h1, thenX_mk, he]
theorem attr_step {f : Nat} {seen : List (List UInt8)} {out : List AttrT} {sc : Scope} {s : List UInt8} : attrsX (f + 1) seen out sc s =
    if (whiteX s).length < s.length ∧ [62].isPrefixOf (whiteX s) = false ∧ [47, 62].isPrefixOf (whiteX s) = false then
      thenX (qnameX (whiteX s)) fun pl r => thenX (eatX [61] (whiteX r)) fun _ r => thenX (valueX (whiteX r)) fun v r =>
        if pl.1 ++ 58 :: pl.2 ∈ seen then none
        else if pl.1 = [] ∧ pl.2 = wXmlns then attrsX f ((pl.1 ++ 58 :: pl.2) :: seen) out (([], v) :: sc) r
        else if pl.1 = wXmlns then (if v = [] ∨ pl.2 = wXml ∨ pl.2 = wXmlns then none else attrsX f ((pl.1 ++ 58 :: pl.2) :: seen) out ((pl.2, v) :: sc) r)
        else if pl.1 ≠ [] then none
        else attrsX f ((pl.1 ++ 58 :: pl.2) :: seen) (out ++ [⟨pl.2, v⟩]) sc r
    else some ((out, sc), whiteX s) := by rw [attrsX]
theorem attrs_fuel : ∀ (f g : Nat) (seen : List (List UInt8)) (out : List AttrT) (sc : Scope) (s : List UInt8), s.length < f → s.length < g → attrsX f seen out sc s = attrsX g seen out sc s
  | 0, _, _, _, _, _, h, _ => absurd h (Nat.not_lt_zero _)
  | _ + 1, 0, _, _, _, _, _, h => absurd h (Nat.not_lt_zero _)
  | f + 1, g + 1, seen, out, sc, s, h1, h2 => by
    rw [attr_step, attr_step]
    split
    · rename_i hw
      refine thenX_congr rfl fun pl r hq => thenX_congr rfl fun u r1 he => thenX_congr rfl fun v r2 hv => ?_
      have l1 := qnameX_len hq
      have l2 := congrArg List.length (eatX_some he)
      have l3 := (valueX_ok hv).1
      have l4 := white_le r
      have l5 := white_le r1
      simp at l2
      have ih := fun seen out sc => attrs_fuel f g seen out sc r2 (by omega) (by omega)
      rw [ih, ih, ih]
    · rfl
theorem attrs_ok : ∀ (f : Nat) (seen : List (List UInt8)) (out : List AttrT) (sc : Scope) (s : List UInt8) (x : List AttrT × Scope) (r : List UInt8), attrsX f seen out sc s = some (x, r) →
    r.length ≤ s.length ∧ (r ≠ [] → ∀ (t : List UInt8) (g : Nat), (s ++ t).length < g → (2 ≤ r.length ∨ [62].isPrefixOf r = true) → attrsX g seen out sc (s ++ t) = some (x, r ++ t))
  | 0, _, _, _, _, _, _, h => by cases h
  | f + 1, seen, out, sc, s, x, r, h => by
    rw [attr_step] at h
    split at h
    · rename_i hw
      obtain ⟨pl, r1, hq, h1⟩ := thenX_some h
      obtain ⟨u, r2, he, h2⟩ := thenX_some h1
      obtain ⟨v, r3, hv, h3⟩ := thenX_some h2
      have l1 := qnameX_len hq
      have l2 := congrArg List.length (eatX_some he)
      obtain ⟨l3, hv2⟩ := valueX_ok hv
      have l4 := white_le r1
      have l5 := white_le r2
      simp at l2
      have key : ∀ seen' out' sc', attrsX f seen' out' sc' r3 = some (x, r) → (∀ (t : List UInt8) (g : Nat), (r3 ++ t).length < g → (2 ≤ r.length ∨ [62].isPrefixOf r = true) → r ≠ [] → attrsX g seen' out' sc' (r3 ++ t) = some (x, r ++ t)) ∧ r.length ≤ s.length := fun seen' out' sc' hh => by
        obtain ⟨k1, k2⟩ := attrs_ok f seen' out' sc' r3 x r hh
        exact ⟨fun t g hg h62 hr => k2 hr t g hg h62, by omega⟩
      have hw2 : (whiteX s) ≠ [] := by intro e0; rw [e0] at l1; simp at l1
      have hr1 : whiteX r1 ≠ [] := by intro e0; rw [e0] at l2; simp at l2
      have hr1' : r1 ≠ [] := by intro e0; rw [e0] at hr1; exact hr1 rfl
      have hr2 : whiteX r2 ≠ [] := by intro e0; rw [e0] at l3; simp at l3
      have step : ∀ (t : List UInt8) (g : Nat), (s ++ t).length < g → ∃ g', g = g' + 1 ∧ (r3 ++ t).length < g' ∧ attrsX g seen out sc (s ++ t) = (if pl.1 ++ 58 :: pl.2 ∈ seen then none
        else if pl.1 = [] ∧ pl.2 = wXmlns then attrsX g' ((pl.1 ++ 58 :: pl.2) :: seen) out (([], v) :: sc) (r3 ++ t)
        else if pl.1 = wXmlns then (if v = [] ∨ pl.2 = wXml ∨ pl.2 = wXmlns then none else attrsX g' ((pl.1 ++ 58 :: pl.2) :: seen) out ((pl.2, v) :: sc) (r3 ++ t))
        else if pl.1 ≠ [] then none
        else attrsX g' ((pl.1 ++ 58 :: pl.2) :: seen) (out ++ [⟨pl.2, v⟩]) sc (r3 ++ t)) := fun t g hg => by
        cases g with
        | zero => exact absurd hg (Nat.not_lt_zero _)
        | succ g =>
          refine ⟨g, rfl, ?_, ?_⟩
          · simp at hg ⊢; omega
          · have n1 : [62].isPrefixOf (whiteX s ++ t) = false := by
              have := hw.2.1
              obtain ⟨c, q, hc⟩ := List.exists_cons_of_ne_nil hw2
              rw [hc] at this ⊢
              simpa [List.isPrefixOf] using this
            have n2 : [47, 62].isPrefixOf (whiteX s ++ t) = false := by
              have h0 := hw.2.2
              have hn := qnameX_len hq
              unfold qnameX at hq
              obtain ⟨a, q, hq1, -⟩ := thenX_some hq
              obtain ⟨ea, eb, -, -⟩ := nameX_some hq1
              obtain ⟨c, q', hc⟩ := List.exists_cons_of_ne_nil (nameOk_ne eb)
              rw [hc] at ea eb
              rw [ea]
              have : c ≠ 47 := by
                intro e0
                subst e0
                revert eb
                simp [nameOk, firC]
              simp [List.isPrefixOf, Ne.symm this]
            rw [attr_step, white_app hw2, if_pos ⟨by simp; omega, n1, n2⟩, qnameX_app hq hr1', thenX_mk, white_app hr1, eatX_some he, List.append_assoc, eatX_app]
            show thenX (valueX (whiteX (r2 ++ t))) _ = _
            rw [white_app hr2, hv2 t]
            rfl
      split at h3
      · cases h3
      · rename_i hs
        split at h3
        · rename_i hx
          obtain ⟨k1, k2⟩ := key _ _ _ h3
          refine ⟨k2, fun hr t g hg h62 => ?_⟩
          obtain ⟨g', rfl, hg', hst⟩ := step t g hg
          rw [hst, if_neg hs, if_pos hx]
          exact k1 t g' hg' h62 hr
        · rename_i hx
          split at h3
          · rename_i hx2
            split at h3
            · cases h3
            · rename_i hx3
              obtain ⟨k1, k2⟩ := key _ _ _ h3
              refine ⟨k2, fun hr t g hg h62 => ?_⟩
              obtain ⟨g', rfl, hg', hst⟩ := step t g hg
              rw [hst, if_neg hs, if_neg hx, if_pos hx2, if_neg hx3]
              exact k1 t g' hg' h62 hr
          · rename_i hx2
            split at h3
            · cases h3
            · rename_i hx3
              obtain ⟨k1, k2⟩ := key _ _ _ h3
              refine ⟨k2, fun hr t g hg h62 => ?_⟩
              obtain ⟨g', rfl, hg', hst⟩ := step t g hg
              rw [hst, if_neg hs, if_neg hx, if_neg hx2, if_neg hx3]
              exact k1 t g' hg' h62 hr
    · rename_i hw
      injection h with h
      injection h with h1 h2
      subst h1 h2
      refine ⟨white_le s, fun hr t g hg h62 => ?_⟩
      cases g with
      | zero => exact absurd hg (Nat.not_lt_zero _)
      | succ g =>
        rw [attr_step, white_app hr, if_neg]
        intro hc
        apply hw
        obtain ⟨c1, c2, c3⟩ := hc
        refine ⟨by simp at c1; omega, ?_, ?_⟩
        · rcases hp : [62].isPrefixOf (whiteX s) with _ | _
          · rfl
          · rw [prefix_app hp t] at c2; cases c2
        · rcases hp : [47, 62].isPrefixOf (whiteX s) with _ | _
          · rfl
          · rw [prefix_app hp t] at c3; cases c3
end Go.Proofs.YtjkiehmjffgnlaaGreatDoor

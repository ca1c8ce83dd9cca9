import Derived.Test.YtjkiehmjffgnlaaGreatDoorXmlZ35
import Derived.Test.YtjkiehmjffgnlaaGreatDoorXmlZ41
import Derived.Test.YtjkiehmjffgnlaaGreatDoorXmlZ2
import Derived.Test.YtjkiehmjffgnlaaGreatDoorXmlZ30
import Derived.Test.YtjkiehmjffgnlaaGreatDoorXmlZ31
import Derived.Test.YtjkiehmjffgnlaaGreatDoorXmlZ47
import Derived.Laws.CopyRow
import Derived.Test.YtjkiehmjffgnlaaGreatDoorXmlZ37
import Derived.Sort.Walk0
import Derived.Deep.RegionHeld3
import Derived.Test.YtjkiehmjffgnlaaGreatDoorShelfP
import Derived.Test.YtjkiehmjffgnlaaGreatDoorXmlZ46
import Derived.Shelf.SlSortCmp.QuietGrown
import Derived.BigRegion
namespace Go.Proofs.YtjkiehmjffgnlaaGreatDoor
set_option linter.unusedVariables false
set_option linter.unusedSimpArgs false
open Go.ChangeShapes Go.WideShapes Go.ChangeAt Go.RowKit Go.Deep

theorem menv_of {W : World} (h0 : laidMetH Tryz.prog Rows.livePatchesRow.laid W) (hsh : W.ShapedOpen Tryz.prog) : MEnv W := by
  refine ⟨env_of h0 hsh, ?_⟩
  have h : laidMet Tryz.prog [("math/bits.deBruijn32tab", Rows.laid_math_bits_deBruijn32tab), ("math/bits.deBruijn64tab", Rows.laid_math_bits_deBruijn64tab), ("internal/strconv.uint64pow10", Rows.laid_internal_strconv_uint64pow10), ("unicode/utf8.acceptRanges", Rows.laid_unicode_utf8_acceptRanges), ("strconv.ErrRange", Rows.laid_strconv_ErrRange), ("strconv.ErrSyntax", Rows.laid_strconv_ErrSyntax), ("unicode.asciiFold", Rows.laid_unicode_asciiFold), ("unicode.caseOrbit", Rows.laid_unicode_caseOrbit), ("unicode.CaseRanges", Rows.laid_unicode_CaseRanges), ("unicode/utf8.first", Rows.laid_unicode_utf8_first)] W := by
    rw [MakeChecks.laidMetH_plain _ _ _ (by kernel_rfl)] at h0
    exact h0
  have h3 := laidMet.tail (laidMet.tail h)
  rw [pow_eq] at h3
  exact Lib.tabIs_of_head (g := 0) (t := 168) (n := 20) (by kernel_rfl) (by kernel_rfl) Tryz.underlying168 Tryz.underlying131 (by kernel_rfl) (by kernel_rfl) h3
theorem read_nodes : Tryz.prog.readableRec 22 = true := by kernel_rfl
theorem row_nodes : 22 < Tryz.prog.types.size := of_decide_eq_true (by kernel_rfl)
section
variable {H : Type} {enc : TypeId × Value → H}
set_option maxRecDepth 100000 in
theorem nodes_of_trod {W : World} {v : Value} {d : DataW H} {ps : List MemPlace} (hv : Value.okWide Tryz.prog W .any 0 22 v) (h : DataW.Trod enc Tryz.prog W 0 (fun _ => true) true 22 v d ps) :
    ∃ l, (Tab 5 (NodeP anyB) W v l ∧ ∀ A n c, v = .slice A n c → A = none → n = 0 ∧ c = 0) ∧ (l.map bulkT).sum + l.length ≤ Rows.uptoBulk d := by
  obtain ⟨fuel, hf⟩ := trod_one Tryz.underlying22 hv h
  obtain ⟨l, h1, h2⟩ := tab_of_trod_el (W := W) (α := NodeT) (NodeP anyB) bulkT Tryz.underlying22 (n := 5) (by kernel_rfl) (by decide) (fun cs y k hc hlt htr => by
    obtain ⟨n, hn, hm⟩ := node_of_cells (y := y) htr
    exact ⟨n, hn, hm⟩) hf
  refine ⟨l, ⟨h1, fun A n c hv2 hA => ?_⟩, h2⟩
  rcases open_slice Tryz.underlying22 hf with ⟨hw, -⟩ | ⟨a, len, cap, M, k, D, Pl, hw, -⟩
  · injection hw with hw
    rw [hw] at hv2
    injection hv2 with _ e2 e3
    exact ⟨e2.symm, e3.symm⟩
  · injection hw with hw
    rw [hw] at hv2
    injection hv2 with e1
    rw [hA] at e1
    cases e1
end
end Go.Proofs.YtjkiehmjffgnlaaGreatDoor
namespace Go.Proofs.YtjkiehmjffgnlaaGreatDoor
set_option linter.unusedVariables false
set_option linter.unusedSimpArgs false

abbrev KeyT := List UInt8 × List UInt8
def keyN (n : NodeT) : KeyT := (n.space, n.name)
def bareN (k : KeyT) : NodeT := .mk [] k.1 k.2 [] []
def cmpB (a b : List UInt8) : Int := if a < b then -1 else if b < a then 1 else 0
def orI (x y : Int) : Int := if x = 0 then y else x
def cmpK (a b : KeyT) : Int := orI (cmpB a.1 b.1) (cmpB a.2 b.2)
def ltK (a b : KeyT) : Prop := a.1 < b.1 ∨ (a.1 = b.1 ∧ a.2 < b.2)
instance (a b : KeyT) : Decidable (ltK a b) := inferInstanceAs (Decidable (_ ∨ _))
def leN (x y : NodeT) : Bool := !decide (ltK (keyN y) (keyN x))
theorem ltB_tri (a b : List UInt8) : a < b ∨ a = b ∨ b < a := by
  rcases List.le_total a b with h | h
  · by_cases e : a = b
    · exact .inr (.inl e)
    · by_cases h2 : a < b
      · exact .inl h2
      · exact absurd (List.le_antisymm h (List.not_lt.1 h2)) e
  · by_cases e : a = b
    · exact .inr (.inl e)
    · by_cases h2 : b < a
      · exact .inr (.inr h2)
      · exact absurd (List.le_antisymm (List.not_lt.1 h2) h) e
theorem ltB_irr (a : List UInt8) : ¬ a < a := List.lt_irrefl a
theorem ltB_asym {a b : List UInt8} (h : a < b) : ¬ b < a := fun h2 => ltB_irr a (List.lt_trans h h2)
theorem cmpB_neg {a b : List UInt8} : cmpB a b < 0 ↔ a < b := by
  unfold cmpB
  by_cases h : a < b
  · rw [if_pos h]; exact ⟨fun _ => h, fun _ => by omega⟩
  · rw [if_neg h]
    split <;> constructor <;> intro h2 <;> first | omega | exact absurd h2 h
theorem cmpB_zero {a b : List UInt8} : cmpB a b = 0 ↔ a = b := by
  unfold cmpB
  rcases ltB_tri a b with h | rfl | h
  · rw [if_pos h]; exact ⟨fun h2 => by omega, fun e => by subst e; exact absurd h (ltB_irr _)⟩
  · rw [if_neg (ltB_irr _), if_neg (ltB_irr _)]; exact ⟨fun _ => rfl, fun _ => rfl⟩
  · rw [if_neg (ltB_asym h), if_pos h]; exact ⟨fun h2 => by omega, fun e => by subst e; exact absurd h (ltB_irr _)⟩
theorem cmpK_neg {a b : KeyT} : cmpK a b < 0 ↔ ltK a b := by
  unfold cmpK orI ltK
  by_cases h : cmpB a.1 b.1 = 0
  · rw [if_pos h, cmpB_neg]
    have e := cmpB_zero.1 h
    exact ⟨fun h2 => .inr ⟨e, h2⟩, fun h2 => h2.elim (fun h3 => by rw [e] at h3; exact absurd h3 (ltB_irr _)) fun h3 => h3.2⟩
  · rw [if_neg h, cmpB_neg]
    exact ⟨fun h2 => .inl h2, fun h2 => h2.elim id fun h3 => absurd (cmpB_zero.2 h3.1) h⟩
theorem ltK_irr (a : KeyT) : ¬ ltK a a := fun h => h.elim (ltB_irr _) fun h2 => ltB_irr _ h2.2
theorem ltK_trans {a b c : KeyT} (h1 : ltK a b) (h2 : ltK b c) : ltK a c := by
  rcases h1 with h1 | ⟨e1, h1⟩ <;> rcases h2 with h2 | ⟨e2, h2⟩
  · exact .inl (List.lt_trans h1 h2)
  · exact .inl (by rw [← e2]; exact h1)
  · exact .inl (by rw [e1]; exact h2)
  · exact .inr ⟨e1.trans e2, List.lt_trans h1 h2⟩
theorem ltK_tri (a b : KeyT) : ltK a b ∨ a = b ∨ ltK b a := by
  rcases ltB_tri a.1 b.1 with h | h | h
  · exact .inl (.inl h)
  · rcases ltB_tri a.2 b.2 with h2 | h2 | h2
    · exact .inl (.inr ⟨h, h2⟩)
    · exact .inr (.inl (Prod.ext h h2))
    · exact .inr (.inr (.inr ⟨h.symm, h2⟩))
  · exact .inr (.inr (.inl h))
theorem leN_iff {x y : NodeT} : leN x y = true ↔ ¬ ltK (keyN y) (keyN x) := by unfold leN; rw [Bool.not_eq_true', decide_eq_false_iff_not]
theorem leN_ok : LeOk leN where
  total a b := by
    rw [leN_iff, leN_iff]
    by_cases h : ltK (keyN b) (keyN a)
    · exact .inr fun h2 => ltK_irr _ (ltK_trans h h2)
    · exact .inl h
  trans a b c h1 h2 := by
    rw [leN_iff] at *
    intro h
    rcases ltK_tri (keyN b) (keyN c) with h3 | h3 | h3
    · exact h1 (ltK_trans h3 h)
    · rw [← h3] at h; exact h1 h
    · exact h2 h3
theorem eqvN {x y : NodeT} : eqv leN x y = decide (keyN y = keyN x) := by
  unfold eqv
  by_cases h : keyN y = keyN x
  · have h1 : leN x y = true := leN_iff.2 (by rw [h]; exact ltK_irr _)
    have h2 : leN y x = true := leN_iff.2 (by rw [h]; exact ltK_irr _)
    rw [h1, h2, decide_eq_true h]; rfl
  · rw [decide_eq_false h, Bool.and_eq_false_iff]
    rcases ltK_tri (keyN y) (keyN x) with h1 | h1 | h1
    · left; rw [Bool.eq_false_iff]; intro h2; exact leN_iff.1 h2 h1
    · exact absurd h1 h
    · right; rw [Bool.eq_false_iff]; intro h2; exact leN_iff.1 h2 h1
def hasK (l : List NodeT) (k : KeyT) : Bool := l.any fun n => decide (keyN n = k)
def addK (l : List NodeT) (k : KeyT) : List NodeT := if hasK l k then l else l ++ [bareN k]
def liveNames : List (List UInt8) := [[114, 101, 115, 111, 117, 114, 99, 101, 116, 121, 112, 101], [103, 101, 116, 99, 111, 110, 116, 101, 110, 116, 108, 101, 110, 103, 116, 104], [103, 101, 116, 101, 116, 97, 103], [115, 117, 112, 112, 111, 114, 116, 101, 100, 108, 111, 99, 107], [108, 111, 99, 107, 100, 105, 115, 99, 111, 118, 101, 114, 121]]
def protK (k : KeyT) : Bool := decide (k.2 ∈ liveNames) && decide (k.1 = wDav)
def doneP (l : List ChgT) : List NodeT := l.foldl (fun a c => addK a (keyN c.value)) []
def badP (l : List ChgT) : List NodeT := l.foldl (fun a c => if protK (keyN c.value) then addK a (keyN c.value) else a) []
def othP (l : List ChgT) : List NodeT := l.foldl (fun a c => if protK (keyN c.value) then a else addK a (keyN c.value)) []
def stepP (now : List NodeT) (c : ChgT) : List NodeT := now.filter (fun n => !decide (keyN n = keyN c.value)) ++ (if c.remove then [] else [c.value])
def nowP (now : List NodeT) (l : List ChgT) : List NodeT := l.foldl stepP now
/-- asz live.Patch goes: what is protected is passed by. -/
def nowL (now : List NodeT) (l : List ChgT) : List NodeT := l.foldl (fun a c => if protK (keyN c.value) then a else stepP a c) now
def fullP (l : List PartT) : List PartT := l.filter fun p => !p.props.isEmpty
theorem addK_ne (l : List NodeT) (k : KeyT) : addK l k ≠ [] := by
  unfold addK
  split
  · rename_i h
    intro e
    subst e
    cases h
  · simp
theorem badP_go : ∀ (l : List ChgT) (a : List NodeT), a ≠ [] → l.foldl (fun a c => if protK (keyN c.value) then addK a (keyN c.value) else a) a ≠ []
  | [], a, h => h
  | c :: l, a, h => by
    rw [List.foldl_cons]
    split
    · exact badP_go l _ (addK_ne _ _)
    · exact badP_go l a h
theorem bad_none : ∀ (l : List ChgT), badP l = [] → ∀ c ∈ l, protK (keyN c.value) = false
  | [], _, c, hc => by cases hc
  | d :: l, h, c, hc => by
    unfold badP at h
    rw [List.foldl_cons] at h
    split at h
    · exact absurd h (badP_go l _ (addK_ne _ _))
    · rename_i hd
      rcases List.mem_cons.1 hc with rfl | hc
      · simpa using hd
      · exact bad_none l h c hc
theorem nowL_eq : ∀ (l : List ChgT) (a : List NodeT), (∀ c ∈ l, protK (keyN c.value) = false) → nowL a l = nowP a l
  | [], a, _ => rfl
  | c :: l, a, h => by
    have h1 := h c (List.mem_cons_self ..)
    show nowL (if protK (keyN c.value) then a else stepP a c) l = nowP (stepP a c) l
    rw [h1]
    exact nowL_eq l _ fun d hd => h d (List.mem_cons_of_mem _ hd)
theorem stab_len : ∀ (A B : List NodeT), (∀ x, B.filter (eqv leN x) = A.filter (eqv leN x)) → B.length = A.length := by
  intro A
  induction A with
  | nil =>
    intro B h
    cases B with
    | nil => rfl
    | cons b B =>
      have := h b
      rw [List.filter_cons, eqv_self leN_ok] at this
      simp at this
  | cons a A ih =>
    intro B h
    have hm : a ∈ B := by
      have e := h a
      rw [List.filter_cons, eqv_self leN_ok, if_pos rfl] at e
      have : a ∈ B.filter (eqv leN a) := by rw [e]; exact List.mem_cons_self ..
      exact (List.mem_filter.1 this).1
    obtain ⟨B1, b, B2, rfl, hb, h1⟩ : ∃ B1 b B2, B = B1 ++ b :: B2 ∧ eqv leN a b = true ∧ ∀ y ∈ B1, eqv leN a y = false := by
      clear h ih
      induction B with
      | nil => cases hm
      | cons y B ihB =>
        by_cases hy : eqv leN a y = true
        · exact ⟨[], y, B, rfl, hy, fun z hz => by cases hz⟩
        · rcases List.mem_cons.1 hm with rfl | hm
          · exact absurd (eqv_self leN_ok _) hy
          · obtain ⟨B1, b, B2, e, hb, h1⟩ := ihB hm
            refine ⟨y :: B1, b, B2, by rw [e]; rfl, hb, fun z hz => ?_⟩
            rcases List.mem_cons.1 hz with rfl | hz
            · simpa using hy
            · exact h1 z hz
    have hB : (B1 ++ B2).length = A.length := by
      refine ih _ fun x => ?_
      have e := h x
      rw [List.filter_append, List.filter_cons, List.filter_cons] at e
      rw [List.filter_append]
      by_cases hx : eqv leN x a = true
      · have hxb : eqv leN x b = true := by
          rw [eqvN] at hx hb ⊢
          simp only [decide_eq_true_eq] at hx hb ⊢
          rw [hb, hx]
        rw [if_pos hx, if_pos hxb] at e
        have h0 : B1.filter (eqv leN x) = [] := by
          rw [List.filter_eq_nil_iff]
          intro y hy hxy
          have := h1 y hy
          rw [eqvN] at this hxy hx
          simp only [decide_eq_true_eq, decide_eq_false_iff_not] at this hxy hx
          exact this (by rw [hxy, hx])
        rw [h0, List.nil_append] at e ⊢
        injection e with _ e
      · have hxb : ¬ eqv leN x b = true := by
          rw [eqvN] at hx hb ⊢
          simp only [decide_eq_true_eq] at hx hb ⊢
          intro e
          exact hx (by rw [← hb, e])
        rw [if_neg hx, if_neg hxb] at e
        exact e
    rw [List.length_append] at hB
    rw [List.length_append, List.length_cons, List.length_cons]
    omega
theorem Stab.stepP {X Y : List NodeT} (h : Stab leN X Y) (c : ChgT) : Stab leN (stepP X c) (stepP Y c) := by
  have hf : Stab leN (X.filter fun n => !decide (keyN n = keyN c.value)) (Y.filter fun n => !decide (keyN n = keyN c.value)) := by
    have key : ∀ x, (Y.filter fun n => !decide (keyN n = keyN c.value)).filter (eqv leN x) = (X.filter fun n => !decide (keyN n = keyN c.value)).filter (eqv leN x) := by
      intro x
      have h1 := h.2 x
      have sw : ∀ l : List NodeT, (l.filter fun n => !decide (keyN n = keyN c.value)).filter (eqv leN x) = (l.filter (eqv leN x)).filter fun n => !decide (keyN n = keyN c.value) := by
        intro l
        rw [List.filter_filter, List.filter_filter]
        congr 1
        funext n
        rw [Bool.and_comm]
      rw [sw, sw, h1]
    refine ⟨?_, key⟩
    have cnt : ∀ (A B : List NodeT), (∀ x, B.filter (eqv leN x) = A.filter (eqv leN x)) → B.length = A.length := stab_len
    exact cnt _ _ key
  exact hf.app (Stab.refl _)
theorem Stab.nowP : ∀ (l : List ChgT) {X Y : List NodeT}, Stab leN X Y → Stab leN (nowP X l) (nowP Y l)
  | [], _, _, h => h
  | c :: l, _, _, h => Stab.nowP l (h.stepP c)
end Go.Proofs.YtjkiehmjffgnlaaGreatDoor
namespace Go.Proofs.YtjkiehmjffgnlaaGreatDoor
set_option linter.unusedVariables false
set_option linter.unusedSimpArgs false
open Go.RowKit

section
variable {P : Program} {e : TypeId} {n B : Nat} {rows : List (List Value)} {v : Value} {w : World}
theorem OwnT.blk (h : OwnT e n B rows v w) (hne : 0 < rows.length) : ∃ g cap cur, v = .slice (some ⟨g, 0, none⟩) rows.length cap ∧ B ≤ g ∧ w.heap[g]? = some (.cells cur e (0, 0)) ∧ rows.length ≤ cap ∧ cap ≤ maxLen ∧ cur.size = cap * n ∧ cur.toList.take (rows.length * n) = rows.flatten := by
  rcases h.1.2 with ⟨-, h0⟩ | h
  · omega
  · exact h
theorem flatten_take : ∀ {rows : List (List Value)}, (∀ r ∈ rows, r.length = n) → ∀ j, rows.flatten.take (j * n) = (rows.take j).flatten
  | [], _, j => by simp
  | r :: rows, h, 0 => by simp
  | r :: rows, h, j + 1 => by
    have h0 := h r (List.mem_cons_self ..)
    rw [List.flatten_cons, List.take_succ_cons, List.flatten_cons, List.take_append, Nat.succ_mul, h0, List.take_of_length_le (by omega), Nat.add_sub_cancel]
    rw [flatten_take (fun r hr => h r (List.mem_cons_of_mem _ hr)) j]
theorem flatten_drop : ∀ {rows : List (List Value)}, (∀ r ∈ rows, r.length = n) → ∀ j, rows.flatten.drop (j * n) = (rows.drop j).flatten
  | [], _, j => by simp
  | r :: rows, h, 0 => by simp
  | r :: rows, h, j + 1 => by
    have h0 := h r (List.mem_cons_self ..)
    rw [List.flatten_cons, List.drop_succ_cons, List.drop_append, Nat.succ_mul, h0, List.drop_of_length_le (by omega), Nat.add_sub_cancel, List.nil_append]
    rw [flatten_drop (fun r hr => h r (List.mem_cons_of_mem _ hr)) j]
theorem set_parts {α : Type} {l : List α} {j : Nat} (hj : j < l.length) (x : α) : l.set j x = l.take j ++ x :: l.drop (j + 1) := by
  rw [List.set_eq_take_append_cons_drop, if_pos hj]
theorem lay_row {cur : List Value} {j : Nat} {r : List Value} (hr : ∀ r ∈ rows, r.length = n) (ht : cur.take (rows.length * n) = rows.flatten) (hj : j < rows.length) (hl : r.length = n) (hc : rows.length * n ≤ cur.length) :
    (cur.take (j * n) ++ r ++ cur.drop (j * n + r.length)).take (rows.length * n) = (rows.set j r).flatten := by
  have e1 : cur.take (j * n) = (rows.take j).flatten := by
    rw [← flatten_take hr j, ← ht, List.take_take, Nat.min_eq_left (Nat.mul_le_mul_right n (Nat.le_of_lt hj))]
  have hle : (j + 1) * n ≤ rows.length * n := Nat.mul_le_mul_right n hj
  have e2 : cur.drop (j * n + r.length) = (rows.drop (j + 1)).flatten ++ cur.drop (rows.length * n) := by
    rw [← flatten_drop hr (j + 1), ← ht, hl, show j * n + n = (j + 1) * n from (Nat.succ_mul j n).symm]
    conv => lhs; rw [← List.take_append_drop (rows.length * n) cur]
    rw [List.drop_append_of_le_length (by rw [List.length_take]; omega)]
  rw [e1, e2, set_parts hj, List.flatten_append, List.flatten_cons, ← List.append_assoc, ← List.append_assoc]
  rw [List.take_append_of_le_length (by
    have h1 := flatten_len (n := n) (rows := rows.take j) fun r hr' => hr r (List.mem_of_mem_take hr')
    have h2 := flatten_len (n := n) (rows := rows.drop (j + 1)) fun r hr' => hr r (List.mem_of_mem_drop hr')
    rw [List.length_append, List.length_append, h1, h2, hl, List.length_take, List.length_drop, Nat.min_eq_left (Nat.le_of_lt hj), ← Nat.succ_mul, ← Nat.add_mul]
    exact Nat.mul_le_mul_right n (by omega))]
  rw [List.take_of_length_le (by
    have h1 := flatten_len (n := n) (rows := rows.take j) fun r hr' => hr r (List.mem_of_mem_take hr')
    have h2 := flatten_len (n := n) (rows := rows.drop (j + 1)) fun r hr' => hr r (List.mem_of_mem_drop hr')
    rw [List.length_append, List.length_append, h1, h2, hl, List.length_take, List.length_drop, Nat.min_eq_left (Nat.le_of_lt hj), ← Nat.succ_mul, ← Nat.add_mul]
    exact Nat.mul_le_mul_right n (by omega))]
theorem size_setRow (w : World) (g : Nat) (cs : Array Value) : (w.setRow g cs).heap.size = w.heap.size := by simp [World.setRow]
theorem grown_setRow (w : World) (g : Nat) (cs : Array Value) : w.grownBy (w.setRow g cs) (some g) :=
  ⟨rfl, rfl, rfl, by simp [World.setRow], fun k hk hne => by simp [World.setRow, Array.getElem?_modify]; intro e; exact absurd (by rw [e]) hne⟩
theorem run_ownStore' (h : OwnT e n B rows v w) {g j : Nat} (hv : v.ownBlock = some g) (hj : j < rows.length) (r : List Value) (hr : r.length = n) (h1 : ∀ u ∈ r, u.oneCell' = true) :
    ∃ w', (storeCells ⟨g, j * n, none⟩ r 0).run P w = .ok () w' ∧ OwnT e n B (rows.set j r) v w' ∧ w.grownBy w' (some g) ∧ w'.heap.size = w.heap.size := by
  obtain ⟨g', cap, cur, rfl, hB, hg, hn, hm, hs, ht⟩ := h.blk (by omega)
  obtain rfl : g' = g := by injection hv
  have hle : (j + 1) * n ≤ rows.length * n := Nat.mul_le_mul_right n hj
  have hle2 : rows.length * n ≤ cap * n := Nat.mul_le_mul_right n hn
  have hst := run_storeCells_at (P := P) g' (j * n) e r 0 cur w hg (by rw [hs, hr, Nat.add_zero, show j * n + n = (j + 1) * n from (Nat.succ_mul j n).symm]; omega) h1
  refine ⟨w.setRow g' (cur.toList.take (j * n) ++ r ++ cur.toList.drop (j * n + r.length)).toArray, ?_, ⟨⟨?_, .inr ⟨g', cap, _, by rw [List.length_set], hB, setRow_heap w g' cur _ e _ hg, by rw [List.length_set]; exact hn, hm, ?_, ?_⟩⟩, fun q hq => ?_⟩, grown_setRow w g' _, size_setRow w g' _⟩
  · rw [Nat.add_zero] at hst
    exact hst
  · have := flatten_len (n := n) (rows := rows.set j r) fun q hq => (List.mem_or_eq_of_mem_set hq).elim (fun h' => h.2 q h') fun e => by rw [e, hr]
    rw [this]
  · have hlen : cur.toList.length = cap * n := by simp [hs]
    simp only [List.size_toArray, List.length_append, List.length_take, List.length_drop, hlen, hr]
    rw [Nat.succ_mul] at hle
    omega
  · rw [List.length_set]
    exact lay_row h.2 ht hj hr (by have hlen : cur.toList.length = cap * n := by simp [hs]
                                   omega)
  · exact (List.mem_or_eq_of_mem_set hq).elim (fun h' => h.2 q h') fun e => by rw [e, hr]
theorem run_store_at (P : Program) {w : World} {g p : Nat} {cur : Array Value} {t : TypeId} {u : Value} (hg : w.heap[g]? = some (.cells cur t (0, 0))) (hp : p < cur.size) (hu : u.oneCell' = true) : (store ⟨g, p, none⟩ u).run P w = .ok () (w.setRow g (cur.setIfInBounds p u)) := by
  have hcell : w.cell? ⟨g, p, none⟩ = some cur[p] := by simp [World.cell?, hg, hp]
  have hfro : w.frozen? ⟨g, p, none⟩ = false := by simp [World.frozen?, hg]
  rw [run_store P w _ u _ hu, hcell]
  simp [hfro, setCell_eq_setRow w g p cur t (0, 0) u hg]
theorem stores_five (P : Program) (h : OwnT e 5 B rows v w) {g j : Nat} (hv : v.ownBlock = some g) (hj : j < rows.length) (f0 f1 f2 f3 f4 : Value) (h1 : ∀ u ∈ [f0, f1, f2, f3, f4], u.oneCell' = true) :
    ∃ W1 W2 W3 W4 W5, (store ⟨g, j * 5, none⟩ f0).run P w = .ok () W1 ∧ (store ⟨g, j * 5 + 1, none⟩ f1).run P W1 = .ok () W2 ∧ (store ⟨g, j * 5 + 2, none⟩ f2).run P W2 = .ok () W3 ∧ (store ⟨g, j * 5 + 3, none⟩ f3).run P W3 = .ok () W4 ∧ (store ⟨g, j * 5 + 4, none⟩ f4).run P W4 = .ok () W5 ∧
      OwnT e 5 B (rows.set j [f0, f1, f2, f3, f4]) v W5 ∧ w.grownBy W5 (some g) ∧ W5.heap.size = w.heap.size := by
  obtain ⟨g', cap, cur, rfl, hB, hg, hn, hm, hs, ht⟩ := h.blk (by omega)
  obtain rfl : g' = g := by injection hv
  have hle : (j + 1) * 5 ≤ cap * 5 := Nat.mul_le_mul_right 5 (by omega)
  have hst := run_storeCells_at (P := P) g' (j * 5) e [f0, f1, f2, f3, f4] 0 cur w hg (by simp only [List.length_cons, List.length_nil]; omega) h1
  have s0 := run_store_at P (p := j * 5) hg (by omega) (h1 f0 (by simp))
  have g1 := setRow_heap w g' cur (cur.setIfInBounds (j * 5) f0) e (0, 0) hg
  have s1 := run_store_at P (p := j * 5 + 1) g1 (by simp; omega) (h1 f1 (by simp))
  have g2 := setRow_heap _ g' _ ((cur.setIfInBounds (j * 5) f0).setIfInBounds (j * 5 + 1) f1) e (0, 0) g1
  have s2 := run_store_at P (p := j * 5 + 2) g2 (by simp; omega) (h1 f2 (by simp))
  have g3 := setRow_heap _ g' _ (((cur.setIfInBounds (j * 5) f0).setIfInBounds (j * 5 + 1) f1).setIfInBounds (j * 5 + 2) f2) e (0, 0) g2
  have s3 := run_store_at P (p := j * 5 + 3) g3 (by simp; omega) (h1 f3 (by simp))
  have g4 := setRow_heap _ g' _ ((((cur.setIfInBounds (j * 5) f0).setIfInBounds (j * 5 + 1) f1).setIfInBounds (j * 5 + 2) f2).setIfInBounds (j * 5 + 3) f3) e (0, 0) g3
  have s4 := run_store_at P (p := j * 5 + 4) g4 (by simp; omega) (h1 f4 (by simp))
  refine ⟨_, _, _, _, _, s0, s1, s2, s3, s4, ?_⟩
  obtain ⟨w', hrun, o1, o2, o3⟩ := run_ownStore' (P := P) h hv hj [f0, f1, f2, f3, f4] rfl h1
  have hadd : ∀ k, (⟨g', j * 5, none⟩ : Addr).add k = ⟨g', j * 5 + k, none⟩ := fun k => by rw [add_eq]
  have h9 := hrun
  simp only [storeCells, Sem.run_bind, hadd, Nat.add_zero, Nat.zero_add, s0, s1, s2, s3, s4, Result.andThen_ok, Sem.run_pure] at h9
  injection h9 with _ h9
  subst h9
  exact ⟨o1, o2, o3⟩
theorem OwnT.cellAt (h : OwnT e n B rows v w) {g : Nat} (hv : v.ownBlock = some g) {j k : Nat} {r : List Value} {u : Value} (hr : rows[j]? = some r) (hu : r[k]? = some u) : w.cell? ⟨g, j * n + k, none⟩ = some u := by
  have hl : r.length = n := h.2 r (List.mem_of_getElem? hr)
  have hkn : k < n := by rw [← hl]; exact (List.getElem?_eq_some_iff.1 hu).1
  have h0 : rows.flatten[j * n + k]? = some u := by rw [flatten_at h.2 j r hr k hkn]; exact hu
  have := World.ownsRow.cells h.1 (g := g) (by
    rcases h.1.2 with ⟨e1, -⟩ | ⟨g', cap, cur, e1, -⟩
    · rw [e1] at hv; cases hv
    · rw [e1] at hv ⊢; injection hv with hv; subst hv; rfl) (j * n + k) u h0
  rw [add_eq, Nat.zero_add] at this
  exact this
theorem OwnT.cut {g : Nat} {cap : Nat} (h : OwnT e n B rows (.slice (some ⟨g, 0, none⟩) rows.length cap) w) {j : Nat} (hj : j ≤ rows.length) : OwnT e n B (rows.take j) (.slice (some ⟨g, 0, none⟩) j cap) w := by
  rcases h.1.2 with ⟨e1, -⟩ | ⟨g', cap', cur, e1, hB, hg, hn, hm, hs, ht⟩
  · cases e1
  · injection e1 with e1 _ e2
    injection e1 with e1
    injection e1 with e1 _ _
    subst e1 e2
    have hl : (rows.take j).length = j := by rw [List.length_take]; omega
    have hr : ∀ r ∈ rows.take j, r.length = n := fun r hr => h.2 r (List.mem_of_mem_take hr)
    refine ⟨⟨by rw [flatten_len hr], .inr ⟨g, cap, cur, by rw [hl], hB, hg, by rw [hl]; omega, hm, hs, ?_⟩⟩, hr⟩
    rw [hl, ← flatten_take h.2 j, ← ht, List.take_take, Nat.min_eq_left (Nat.mul_le_mul_right n hj)]
theorem run_ownClear {z : Value} {t : TypeId} (E : P.underlying t = some (.slice e)) (hi : (P.info? e).map (fun i => (i.zero, i.size)) = some (some z, n)) (hz : z.cells.size = n) (h1 : ∀ u ∈ z.cells.toList, u.oneCell' = true) {g cap : Nat} (h : OwnT e n B rows (.slice (some ⟨g, 0, none⟩) rows.length cap) w) {j : Nat} (hj : j ≤ rows.length) (ty : TypeId) (c : Nat) (A : Option Addr) (hA : 0 < rows.length - j → A = some ⟨g, j * n, none⟩) :
    ∃ w', (Builtin.clear_ #[t] ty #[.slice A (rows.length - j) c]).run P w = .ok (.tuple #[]) w' ∧ OwnT e n B (rows.take j) (.slice (some ⟨g, 0, none⟩) j cap) w' ∧ w.grownBy w' (some g) ∧ w'.heap.size = w.heap.size := by
  have hg0 := h
  rcases Nat.eq_zero_or_pos (rows.length - j) with h0 | h0
  · refine ⟨w, ?_, h.cut hj, World.grownBy.refl _ _, rfl⟩
    rw [h0]
    cases A <;> simp [Builtin.clear_, run_underlying E]
  · obtain rfl := hA h0
    obtain ⟨g', cap', cur, e1, hB, hg, hn, hm, hs, ht⟩ := h.blk (by omega)
    injection e1 with e1 _ e2
    injection e1 with e1
    injection e1 with e1 _ _
    subst e1 e2
    have hzl : (Builtin.zeroCells z.cells (rows.length - j)).toList.length = (rows.length - j) * n := by simp [Builtin.zeroCells, hz]
    have hle : j * n + (rows.length - j) * n ≤ cap * n := by rw [← Nat.add_mul]; exact Nat.mul_le_mul_right n (by omega)
    have hjn : j * n ≤ rows.length * n := Nat.mul_le_mul_right n hj
    have hone : ∀ u ∈ (Builtin.zeroCells z.cells (rows.length - j)).toList, u.oneCell' = true := by
      intro u hu
      simp only [Builtin.zeroCells, Array.toList_map, List.mem_map, Array.toList_range, List.mem_range] at hu
      obtain ⟨i, hi2, rfl⟩ := hu
      have hnp : 0 < z.cells.size := by
        rcases Nat.eq_zero_or_pos z.cells.size with h9 | h9
        · rw [h9, Nat.mul_zero] at hi2; omega
        · exact h9
      rw [getElem!_pos z.cells (i % z.cells.size) (Nat.mod_lt _ hnp)]
      exact h1 _ (by simp)
    have hst := run_storeCells_at (P := P) g (j * n) e (Builtin.zeroCells z.cells (rows.length - j)).toList 0 cur w hg (by rw [hs, hzl, Nat.add_zero]; exact hle) hone
    obtain ⟨Z, hZ⟩ : ∃ Z, Z = Builtin.zeroCells z.cells (rows.length - j) := ⟨_, rfl⟩
    rw [← hZ] at hzl hone hst
    refine ⟨w.setRow g (cur.toList.take (j * n) ++ Z.toList ++ cur.toList.drop (j * n + Z.toList.length)).toArray, ?_, ⟨⟨?_, .inr ⟨g, cap, _, ?_, hB, setRow_heap w g cur _ e _ hg, ?_, hm, ?_, ?_⟩⟩, fun r hr => h.2 r (List.mem_of_mem_take hr)⟩, grown_setRow w g _, size_setRow w g _⟩
    · cases hq : P.info? e with
      | none => simp [hq] at hi
      | some i =>
        have hz2 : i.zero = some z := by simp [hq] at hi; exact hi.1
        obtain ⟨m, hm2⟩ : ∃ m, rows.length - j = m + 1 := ⟨rows.length - j - 1, by omega⟩
        rw [hm2] at hZ ⊢
        simp [Builtin.clear_, run_underlying E, zeroValue, typeInfo, hq, hz2, ← hZ, hst]
    · rw [flatten_len fun r hr => h.2 r (List.mem_of_mem_take hr)]
    · rw [List.length_take]; congr 1; omega
    · rw [List.length_take]; omega
    · have hlen : cur.toList.length = cap * n := by simp [hs]
      simp only [List.size_toArray, List.length_append, List.length_take, List.length_drop, hlen, hzl]
      omega
    · rw [List.length_take, Nat.min_eq_left hj, ← flatten_take h.2 j, ← ht, List.take_take, Nat.min_eq_left hjn]
      have hlen : cur.toList.length = cap * n := by simp [hs]
      rw [List.append_assoc]
      show (List.take (j * n) (cur.toList.take (j * n) ++ _)) = _
      rw [List.take_append_of_le_length (by rw [List.length_take]; omega), List.take_take, Nat.min_self]
end
end Go.Proofs.YtjkiehmjffgnlaaGreatDoor
namespace Go.Proofs.YtjkiehmjffgnlaaGreatDoor
set_option linter.unusedVariables false
set_option linter.unusedSimpArgs false
open Go.RowKit

def RowP {α : Type} (e : TypeId) (n B : Nat) (R : (Nat → Prop) → World → List Value → α → Prop) (Pb : Nat → Prop) (w : World) (v : Value) (xs : List α) : Prop :=
  ∃ rows : List (List Value), OwnT e n B rows v w ∧ rows.length = xs.length ∧ ∀ (j : Nat) (r : List Value) (x : α), rows[j]? = some r → xs[j]? = some x → R Pb w r x
section
variable {α : Type} {e : TypeId} {n B : Nat} {R : (Nat → Prop) → World → List Value → α → Prop} {Pb : Nat → Prop} {w w' : World} {v : Value} {xs ys : List α}
theorem RowP.tab (hM : Mov R) (h : RowP e n B R Pb w v xs) : Tab n (R anyB) w v xs := by
  obtain ⟨rows, h1, h2, h3⟩ := h
  exact h1.tab h2 fun j x r hx hr => hM _ _ _ _ _ _ (h3 j r x hr hx) (Moves.same w fun _ _ _ => trivial)
theorem RowP.form (h : RowP e n B R Pb w v xs) : ∃ A cap, v = .slice A xs.length cap := by
  obtain ⟨rows, h1, h2, -⟩ := h
  rcases h1.1.2 with ⟨hv, h0⟩ | ⟨g, cap, cur, hv, hb, hg, hn, hm, hs, ht⟩
  · exact ⟨none, 0, by rw [hv, ← h2, h0]⟩
  · exact ⟨_, cap, by rw [hv, h2]⟩
theorem run_appMany {P : Program} {t : TypeId} {z : Value} {bytes : Nat} (E : ElemN P t e n z bytes) (hM : Mov R) (ty : TypeId) (h : RowP e n B R Pb w v xs) (hP : ∀ k, Pb k → some k ≠ v.ownBlock) (hB : B ≤ w.heap.size) {A : Option Addr} {cap : Nat} (hy : Tab n (R Pb) w (.slice A ys.length cap) ys)
    (h1 : ∀ cs x, R Pb w cs x → ∀ u ∈ cs, u.oneCell' = true) (hlen : (xs.length + ys.length) * bytes ≤ 140737488355328) :
    ∃ v' w', (Builtin.append_ #[t, t] ty #[v, .slice A ys.length cap]).run P w = .ok v' w' ∧ RowP e n B R Pb w' v' (xs ++ ys) ∧ Below B w w' ∧ w.grownBy w' v.ownBlock ∧ (v'.ownBlock = v.ownBlock ∨ v'.ownBlock = some w.heap.size) := by
  obtain ⟨rows, r1, r2, r3⟩ := h
  obtain ⟨A', cap', news, hv, n1, n2, n3, n4, n5, n6⟩ := hy.flat
  injection hv with hv1 hv2 hv3
  subst hv1 hv3
  obtain ⟨v', w', hrun, g1, g2, g3, g4⟩ := run_appT E ty r1 A ys.length cap (news := news) n3 n1 n4 (fun hne => by
      obtain ⟨b, o, hA, -, hc⟩ := n6 (fun e => hne (List.eq_nil_of_length_eq_zero (by rw [n3, e]; rfl)))
      exact ⟨b, o, hA, hc⟩) (fun r hr u hu => by
      obtain ⟨j, hj, rfl⟩ := List.mem_iff_getElem.1 hr
      exact h1 _ _ (n5 j _ _ (List.getElem?_eq_getElem (by rw [← n3]; exact hj)) (List.getElem?_eq_getElem hj)) u hu) (by rw [r2]; exact hlen) hB
  have hm : Moves Pb Pb w w' := ⟨g3.size, fun k hk hlt => ⟨hk, g3.block k hlt (hP k hk)⟩⟩
  refine ⟨v', w', hrun, ⟨rows ++ news, g1, by simp [r2, n3], fun j r y hr hy => ?_⟩, g2, g3, g4⟩
  rcases Nat.lt_or_ge j rows.length with hj | hj
  · rw [List.getElem?_append_left hj] at hr
    rw [List.getElem?_append_left (by rw [← r2]; exact hj)] at hy
    exact hM _ _ _ _ _ _ (r3 j r y hr hy) hm
  · rw [List.getElem?_append_right hj] at hr
    rw [List.getElem?_append_right (by rw [← r2]; exact hj), ← r2] at hy
    exact hM _ _ _ _ _ _ (n5 _ _ _ hy hr) hm
end
theorem wpList_app_run {P : Program} {t : TypeId} {ops : Array Oper} {rest : List Oper} {o : Oper} {a : Act} {Q : Exit → Act → World → Prop} {w w' : World} {u v v' : Value} (hw : Region.wanted o (yielded ops a.tmps) = true) (s x : Operand)
    (ho : o.op = .call { callee := .builtin .append, args := #[s, x], argTypes := #[t, t] }) (hs : a.eval s = v) (hx : a.eval x = u) (hrun : (Builtin.append_ #[t, t] o.type #[v, u]).run P w = .ok v' w')
    (h : wpList P ops Q rest (a.put o.dst v') w') : wpList P ops Q (o :: rest) a w := by
  refine wpList_step fun K hK => ?_
  rw [if_pos hw]
  unfold Oper.wp execOp
  simp only [ho, resolve, invoke, builtin, Sem.run_bind, Sem.run_pure, Result.andThen_ok, List.map_toArray, List.map_cons, List.map_nil, hs, hx, hrun]
  exact hK _ _ h
theorem row_offL {r r' : Option Nat} {w : World} (h : r' = r ∨ ∃ k, r' = some k ∧ w.heap.size ≤ k) {k : Nat} (hk : some k ≠ r) (hlt : k < w.heap.size) : some k ≠ r' := by
  rcases h with h | ⟨j, hj, hs⟩
  · rw [h]; exact hk
  · rw [hj]; intro e; injection e with e; omega
structure RGr (o o' : Option Nat) (w w' : World) : Prop where
  os : w'.os = w.os
  tape : w'.tape = w.tape
  output : w'.output = w.output
  size : w.heap.size ≤ w'.heap.size
  block : ∀ k, k < w.heap.size → some k ≠ o → w'.heap[k]? = w.heap[k]?
  row : o' = o ∨ ∃ k, o' = some k ∧ w.heap.size ≤ k
theorem RGr.refl (o : Option Nat) (w : World) : RGr o o w w := ⟨rfl, rfl, rfl, Nat.le_refl _, fun _ _ _ => rfl, .inl rfl⟩
theorem RGr.trans {o o1 o2 : Option Nat} {w w1 w2 : World} (h1 : RGr o o1 w w1) (h2 : RGr o1 o2 w1 w2) : RGr o o2 w w2 :=
  ⟨h2.os.trans h1.os, h2.tape.trans h1.tape, h2.output.trans h1.output, Nat.le_trans h1.size h2.size,
    fun k hk hne => (h2.block k (Nat.lt_of_lt_of_le hk h1.size) (row_offL h1.row hne hk)).trans (h1.block k hk hne),
    h2.row.elim (fun e => by rw [e]; exact h1.row) fun ⟨k, e, hs⟩ => .inr ⟨k, e, Nat.le_trans h1.size hs⟩⟩
theorem RGr.under {o : Option Nat} {w w' : World} (hb : Below w.heap.size w w') : RGr o o w w' := ⟨hb.os, hb.tape, hb.output, hb.size, fun k hk _ => hb.block k hk, .inl rfl⟩
theorem RGr.of {o o' : Option Nat} {w w' : World} (hg : w.grownBy w' o) (hn : o' = o ∨ ∃ k, o' = some k ∧ w.heap.size ≤ k) : RGr o o' w w' := ⟨hg.os, hg.tape, hg.output, hg.size, fun k hk hne => hg.block k hk hne, hn⟩
theorem RGr.low {B : Nat} {o o' : Option Nat} {w w' : World} (h : RGr o o' w w') (ho : ∀ k, o = some k → B ≤ k) (hB : B ≤ w.heap.size) : Below B w w' :=
  ⟨h.os, h.tape, h.output, h.size, fun k hk => h.block k (by omega) (fun e => by have := ho k e.symm; omega)⟩
end Go.Proofs.YtjkiehmjffgnlaaGreatDoor
namespace Go.Proofs.YtjkiehmjffgnlaaGreatDoor
set_option linter.unusedVariables false
set_option linter.unusedSimpArgs false
open Go.RowKit

set_option maxHeartbeats 2000000 in
set_option maxRecDepth 100000 in
set_option linter.unusedSimpArgs false in
theorem isNaN_any (x : List UInt8) (w : World) : Calls Tryz.prog 43 #[.string ⟨x.toArray⟩] w (Same0 (.bool false) w) := by
  go_enter Tryz.func43, Tryz.ntmps43
  go_wp2
  go_ret
  exact ⟨by simp, rfl⟩
set_option maxHeartbeats 4000000 in
set_option maxRecDepth 100000 in
set_option linter.unusedSimpArgs false in
theorem compare_any (x y : List UInt8) (w : World) : Calls Tryz.prog 25 #[.string ⟨x.toArray⟩, .string ⟨y.toArray⟩] w (Same0 (.int .i64 (cmpB x y)) w) := by
  obtain ⟨E, hEE⟩ : ∃ E, E = Same0 (.int .i64 (cmpB x y)) w := ⟨_, rfl⟩
  rw [← hEE]
  have HEE := Lib.hid hEE
  clear hEE
  have HN := Lib.hid (fun (z : List UInt8) w => isNaN_any z w)
  have HTri := Lib.hid (ltB_tri x y)
  go_enter Tryz.func25, Tryz.ntmps25
  go_wp2_with fail
  refine (HN.out _ _).mono ?_
  rintro e w1 ⟨rfl, rfl⟩
  go_wp2_with fail
  refine (HN.out _ _).mono ?_
  rintro e w1 ⟨rfl, rfl⟩
  rcases HTri.out with h | h | h
  · have hb : Op.bytesLess x y = true := by rw [bytesLess_eq]; exact decide_eq_true h
    have HC := Lib.hid (show cmpB x y = -1 by unfold cmpB; rw [if_pos h])
    clear h HTri
    go_wp2
    rw [HEE.out, HC.out]
    exact ⟨rfl, rfl⟩
  · subst h
    have hb : Op.bytesLess x x = false := by rw [bytesLess_eq]; exact decide_eq_false (ltB_irr x)
    have HC := Lib.hid (show cmpB x x = 0 from cmpB_zero.2 rfl)
    clear HTri
    go_wp2
    rw [HEE.out, HC.out]
    exact ⟨rfl, rfl⟩
  · have hb : Op.bytesLess x y = false := by rw [bytesLess_eq]; exact decide_eq_false (ltB_asym h)
    have he : (x == y) = false := beq_eq_false_iff_ne.2 (fun e => by subst e; exact ltB_irr _ h)
    have HC := Lib.hid (show cmpB x y = 1 by unfold cmpB; rw [if_neg (ltB_asym h), if_pos h])
    clear h HTri
    go_wp2
    rw [HEE.out, HC.out]
    exact ⟨rfl, rfl⟩
set_option maxHeartbeats 4000000 in
set_option maxRecDepth 100000 in
set_option linter.unusedSimpArgs false in
theorem or2_any (x y : Int) (w : World) (h : Nat) (hb : w.heap[h]? = some (.cells #[.int .i64 x, .int .i64 y] 3 (0, 0))) : Calls Tryz.prog 24 #[.slice (some ⟨h, 0, none⟩) 2 2] w (Same0 (.int .i64 (orI x y)) w) := by
  obtain ⟨E, hEE⟩ : ∃ E, E = Same0 (.int .i64 (orI x y)) w := ⟨_, rfl⟩
  rw [← hEE]
  have HEE := Lib.hid hEE
  have x0 := xat hb 0
  have x1 := xat hb 1
  simp only [List.getElem?_toArray, List.getElem?_cons_zero, List.getElem?_cons_succ] at x0 x1
  clear hEE hb
  go_enter Tryz.func24, Tryz.ntmps24
  go_wp2_with fail
  go_loopg [8] 2 (fun gk v8 wr => ∃ i : Nat, i + gk = 2 ∧ v8 = .int .i64 i ∧ Hid (wr = w) ∧ Hid (0 < i → x = 0) ∧ Hid (1 < i → y = 0))
  case atStart => exact ⟨0, by omega, rfl, Lib.hid rfl, Lib.hid (fun h => absurd h (Nat.lt_irrefl _)), Lib.hid (fun h => by omega)⟩
  case round =>
    obtain ⟨i, hig, rfl, HW, HX, HY⟩ := hrel
    obtain rfl : wr = w := HW.out
    clear HW
    match i, hig, HX, HY with
    | 0, hig, HX, HY =>
      by_cases hx : x = 0
      · have HX1 := Lib.hid (fun (_ : 0 < 1) => hx)
        subst hx
        clear HX HY
        go_wp2
        go_roundg (gk - 1)
        case measure => omega
        case rel => exact ⟨1, by omega, by go_num, Lib.hid rfl, HX1, Lib.hid (fun h => by omega)⟩
      · have b1 : (x == 0) = false := beq_eq_false_iff_ne.2 hx
        have HV := Lib.hid (show orI x y = x from if_neg hx)
        clear HX HY
        go_wp2
        rw [HEE.out, HV.out]
        exact ⟨rfl, rfl⟩
    | 1, hig, HX, HY =>
      have hx := HX.out (by omega)
      subst hx
      by_cases hy : y = 0
      · have HY1 := Lib.hid (fun (_ : 1 < 2) => hy)
        subst hy
        clear HX HY
        go_wp2
        go_roundg (gk - 1)
        case measure => omega
        case rel => exact ⟨2, by omega, by go_num, Lib.hid rfl, by show Hid _; exact Lib.hid (by intros; trivial), HY1⟩
      · have b1 : (y == 0) = false := beq_eq_false_iff_ne.2 hy
        clear HX HY
        go_wp2
        rw [HEE.out]
        exact ⟨rfl, rfl⟩
    | 2, hig, HX, HY =>
      have hx := HX.out (by omega)
      have hy := HY.out (by omega)
      subst hx hy
      clear HX HY
      go_wp2
      rw [HEE.out]
      exact ⟨rfl, rfl⟩
    | i + 3, hig, HX, HY => omega
def RetW (v : Value) (w : World) (e : Ending) (w' : World) : Prop := e = .returned v ∧ ∃ q os, w' = Sort.grow (w.drewN q) os
theorem below_grown (w : World) (q : Nat) (os : Array Obj) : Below w.heap.size w (Sort.grow (w.drewN q) os) := by
  refine ⟨rfl, rfl, rfl, ?_, fun j hj => ?_⟩
  · show w.heap.size ≤ (w.heap ++ os).size
    simp
  · show (w.heap ++ os)[j]? = w.heap[j]?
    rw [Array.getElem?_append_left hj]
theorem allocs_grow : ∀ (l : List Obj) (w : World), allocs w l = Sort.grow w l.toArray
  | [], w => (Sort.grow_empty w).symm
  | o :: l, w => by
    show allocs (w.alloc o) l = _
    rw [allocs_grow l, Sort.alloc_eq_grow, Sort.grow_grow]
    simp
structure NodeD where
  x : NodeT
  aA : Option Addr
  am : Nat
  ac : Nat
  kA : Option Addr
  km : Nat
  kc : Nat
instance : Inhabited NodeD := ⟨⟨.mk [] [] [] [] [], none, 0, 0, none, 0, 0⟩⟩
def NodeD.cells (p : NodeD) : List Value := [.string ⟨p.x.text.toArray⟩, .string ⟨p.x.space.toArray⟩, .string ⟨p.x.name.toArray⟩, .slice p.aA p.am p.ac, .slice p.kA p.km p.kc]
set_option maxHeartbeats 16000000 in
set_option maxRecDepth 100000 in
set_option linter.unusedSimpArgs false in
theorem cmpN_any (p q : NodeD) (w : World) : Calls Tryz.prog 23 #[.agg p.cells.toArray, .agg q.cells.toArray] w (RetW (.int .i64 (cmpK (keyN p.x) (keyN q.x))) w) := by
  obtain ⟨⟨pt, ps, pn, pa, pk⟩, aA, am, ac, kA, km, kc⟩ := p
  obtain ⟨⟨qt, qs, qn, qa, qk⟩, bA, bm, bc, jA, jm, jc⟩ := q
  show Calls Tryz.prog 23 #[.agg #[.string ⟨pt.toArray⟩, .string ⟨ps.toArray⟩, .string ⟨pn.toArray⟩, .slice aA am ac, .slice kA km kc], .agg #[.string ⟨qt.toArray⟩, .string ⟨qs.toArray⟩, .string ⟨qn.toArray⟩, .slice bA bm bc, .slice jA jm jc]] w (RetW (.int .i64 (orI (cmpB ps qs) (cmpB pn qn))) w)
  obtain ⟨E, hEE⟩ : ∃ E, E = RetW (.int .i64 (orI (cmpB ps qs) (cmpB pn qn))) w := ⟨_, rfl⟩
  rw [← hEE]
  have HEE := Lib.hid hEE
  clear hEE
  have HC := Lib.hid (fun x y w => compare_any x y w)
  have HWg := Lib.hid (allocs_grow [(.cells #[.string ⟨pt.toArray⟩, .string ⟨ps.toArray⟩, .string ⟨pn.toArray⟩, .slice aA am ac, .slice kA km kc] 46 (0, 0)), (.cells #[.string ⟨qt.toArray⟩, .string ⟨qs.toArray⟩, .string ⟨qn.toArray⟩, .slice bA bm bc, .slice jA jm jc] 46 (0, 0)), (.cells #[.int .i64 (cmpB ps qs), .int .i64 (cmpB pn qn)] 3)] w)
  have hb := allocs_below [(.cells #[.string ⟨pt.toArray⟩, .string ⟨ps.toArray⟩, .string ⟨pn.toArray⟩, .slice aA am ac, .slice kA km kc] 46 (0, 0)), (.cells #[.string ⟨qt.toArray⟩, .string ⟨qs.toArray⟩, .string ⟨qn.toArray⟩, .slice bA bm bc, .slice jA jm jc] 46 (0, 0))] w
  have ha := allocs_at [(.cells #[.string ⟨pt.toArray⟩, .string ⟨ps.toArray⟩, .string ⟨pn.toArray⟩, .slice aA am ac, .slice kA km kc] 46 (0, 0)), (.cells #[.string ⟨qt.toArray⟩, .string ⟨qs.toArray⟩, .string ⟨qn.toArray⟩, .slice bA bm bc, .slice jA jm jc] 46 (0, 0))] w 0 _ rfl
  have hc := allocs_at [(.cells #[.string ⟨pt.toArray⟩, .string ⟨ps.toArray⟩, .string ⟨pn.toArray⟩, .slice aA am ac, .slice kA km kc] 46 (0, 0)), (.cells #[.string ⟨qt.toArray⟩, .string ⟨qs.toArray⟩, .string ⟨qn.toArray⟩, .slice bA bm bc, .slice jA jm jc] 46 (0, 0))] w 1 _ rfl
  go_enter Tryz.func23, Tryz.ntmps23
  go_wp2_with fail
  rw [show allocs w [(.cells #[.string ⟨pt.toArray⟩, .string ⟨ps.toArray⟩, .string ⟨pn.toArray⟩, .slice aA am ac, .slice kA km kc] 46 (0, 0)), (.cells #[.string ⟨qt.toArray⟩, .string ⟨qs.toArray⟩, .string ⟨qn.toArray⟩, .slice bA bm bc, .slice jA jm jc] 46 (0, 0))] = (w.alloc (.cells #[.string ⟨pt.toArray⟩, .string ⟨ps.toArray⟩, .string ⟨pn.toArray⟩, .slice aA am ac, .slice kA km kc] 46 (0, 0))).alloc (.cells #[.string ⟨qt.toArray⟩, .string ⟨qs.toArray⟩, .string ⟨qn.toArray⟩, .slice bA bm bc, .slice jA jm jc] 46 (0, 0)) from rfl] at hb ha hc
  rw [show allocs w [(.cells #[.string ⟨pt.toArray⟩, .string ⟨ps.toArray⟩, .string ⟨pn.toArray⟩, .slice aA am ac, .slice kA km kc] 46 (0, 0)), (.cells #[.string ⟨qt.toArray⟩, .string ⟨qs.toArray⟩, .string ⟨qn.toArray⟩, .slice bA bm bc, .slice jA jm jc] 46 (0, 0)), (.cells #[.int .i64 (cmpB ps qs), .int .i64 (cmpB pn qn)] 3)] = ((w.alloc (.cells #[.string ⟨pt.toArray⟩, .string ⟨ps.toArray⟩, .string ⟨pn.toArray⟩, .slice aA am ac, .slice kA km kc] 46 (0, 0))).alloc (.cells #[.string ⟨qt.toArray⟩, .string ⟨qs.toArray⟩, .string ⟨qn.toArray⟩, .slice bA bm bc, .slice jA jm jc] 46 (0, 0))).alloc (.cells #[.int .i64 (cmpB ps qs), .int .i64 (cmpB pn qn)] 3) from rfl] at HWg
  generalize (w.alloc (.cells #[.string ⟨pt.toArray⟩, .string ⟨ps.toArray⟩, .string ⟨pn.toArray⟩, .slice aA am ac, .slice kA km kc] 46 (0, 0))).alloc (.cells #[.string ⟨qt.toArray⟩, .string ⟨qs.toArray⟩, .string ⟨qn.toArray⟩, .slice bA bm bc, .slice jA jm jc] 46 (0, 0)) = w2 at *
  obtain ⟨q1, hq1⟩ : ∃ q, q = w.heap.size := ⟨_, rfl⟩
  obtain ⟨q2, hq2⟩ : ∃ q, q = w.heap.size + 1 := ⟨_, rfl⟩
  rw [← hq2] at hc ⊢
  rw [Nat.add_zero] at ha
  rw [← hq1] at ha ⊢
  have x1 := xat ha 1
  have x2 := xat ha 2
  have y1 := xat hc 1
  have y2 := xat hc 2
  have hbz : Below w2.heap.size w2 (w2.alloc (.cells #[.int .i64 (cmpB ps qs), .int .i64 (cmpB pn qn)] 3)) := (Below.refl _ _).alloc (Nat.le_refl _) _
  have ha2 := (hbz.block q1 (xlt ha)).trans ha
  have hc2 := (hbz.block q2 (xlt hc)).trans hc
  have x1' := xat ha2 1
  have x2' := xat ha2 2
  have y1' := xat hc2 1
  have y2' := xat hc2 2
  simp only [List.getElem?_toArray, List.getElem?_cons_zero, List.getElem?_cons_succ] at x1 x2 y1 y2 x1' x2' y1' y2'
  have HZ2 := Lib.hid (⟨x1', x2', y1', y2'⟩ : (w2.alloc (.cells #[.int .i64 (cmpB ps qs), .int .i64 (cmpB pn qn)] 3)).drew.cell? ⟨q1, 1, none⟩ = some (.string ⟨ps.toArray⟩) ∧ (w2.alloc (.cells #[.int .i64 (cmpB ps qs), .int .i64 (cmpB pn qn)] 3)).drew.cell? ⟨q1, 2, none⟩ = some (.string ⟨pn.toArray⟩) ∧ (w2.alloc (.cells #[.int .i64 (cmpB ps qs), .int .i64 (cmpB pn qn)] 3)).drew.cell? ⟨q2, 1, none⟩ = some (.string ⟨qs.toArray⟩) ∧ (w2.alloc (.cells #[.int .i64 (cmpB ps qs), .int .i64 (cmpB pn qn)] 3)).drew.cell? ⟨q2, 2, none⟩ = some (.string ⟨qn.toArray⟩))
  have HBz := Lib.hid (hb.trans (hbz.mono hb.size))
  have HZ := Lib.hid (⟨x1, x2, y1, y2⟩ : w2.drew.cell? ⟨q1, 1, none⟩ = some (.string ⟨ps.toArray⟩) ∧ w2.drew.cell? ⟨q1, 2, none⟩ = some (.string ⟨pn.toArray⟩) ∧ w2.drew.cell? ⟨q2, 1, none⟩ = some (.string ⟨qs.toArray⟩) ∧ w2.drew.cell? ⟨q2, 2, none⟩ = some (.string ⟨qn.toArray⟩))
  have HB := Lib.hid hb
  clear hq1 hq2 ha hc x1 x2 y1 y2 hb ha2 hc2 x1' x2' y1' y2' hbz
  go_region_held3 (fun w' => w'.cell? ⟨q1, 1, none⟩ = some (.string ⟨ps.toArray⟩) ∧ w'.cell? ⟨q1, 2, none⟩ = some (.string ⟨pn.toArray⟩) ∧ w'.cell? ⟨q2, 1, none⟩ = some (.string ⟨qs.toArray⟩) ∧ w'.cell? ⟨q2, 2, none⟩ = some (.string ⟨qn.toArray⟩))
    (first | exact HZ.out | exact HZ2.out)
    (first
    | (go_at_call 25; refine (HC.out _ _ _).mono ?_; rintro e w5 ⟨rfl, rfl⟩)
    | (go_at_call 24; refine (or2_any (cmpB ps qs) (cmpB pn qn) (w2.alloc (.cells #[.int .i64 (cmpB ps qs), .int .i64 (cmpB pn qn)] 3)).drew w2.heap.size (heap_alloc_new w2 _)).mono ?_; rintro e w6 ⟨rfl, rfl⟩))
  all_goals
    go_wp2
    rw [HEE.out]
    exact ⟨rfl, 1, _, by rw [HWg.out]; rfl⟩
end Go.Proofs.YtjkiehmjffgnlaaGreatDoor
namespace Go.Proofs.YtjkiehmjffgnlaaGreatDoor
set_option linter.unusedVariables false
set_option linter.unusedSimpArgs false
open Go.RowKit

set_option maxHeartbeats 2000000 in
set_option maxRecDepth 100000 in
set_option linter.unusedSimpArgs false in
theorem lfmt_any (n : Int) (w : World) (h0 : -9223372036854775808 ≤ n) (h1 : n ≤ 9223372036854775807) (hE : MEnv w) :
    Calls Tryz.prog 46 #[.int .i64 n, .int .i64 10] w (Ret (.string ⟨(Lib.itoa n).toArray⟩) w) := by
  have HF := Lib.hid (Tryz.internal_strconv_FormatInt_10 n h0 h1 w hE.pow)
  obtain ⟨E, hEE⟩ : ∃ E, E = Ret (.string ⟨(Lib.itoa n).toArray⟩) w := ⟨_, rfl⟩
  rw [← hEE]
  have HEE := Lib.hid hEE
  clear hEE hE h0 h1
  generalize Lib.itoa n = D at *
  go_enter Tryz.func46, Tryz.ntmps46
  go_wp2_with fail
  refine HF.out.mono ?_
  rintro e w' ⟨rfl, k, os, rfl⟩
  go_wp2
  rw [HEE.out]
  exact ⟨rfl, below_grown w k os⟩
end Go.Proofs.YtjkiehmjffgnlaaGreatDoor
namespace Go.Proofs.YtjkiehmjffgnlaaGreatDoor
set_option linter.unusedVariables false
set_option linter.unusedSimpArgs false
open Go.RowKit

structure LockT where
  token : List UInt8
  path : List (List UInt8)
  deep : Bool
  excl : Bool
  owner : List UInt8
  upto : Int
def lockCells (l : LockT) (A : Option Addr) (c : Nat) : List Value := [.string ⟨l.token.toArray⟩, .slice A l.path.length c, .bool l.deep, .bool l.excl, .string ⟨l.owner.toArray⟩, .int .i64 l.upto]
def LockR (w : World) (cs : List Value) (l : LockT) : Prop := ∃ A c, cs = lockCells l A c ∧ Strs w (.slice A l.path.length c) l.path
def coversL (l : LockT) (p : List (List UInt8)) : Bool := UriN.withinS p l.path && (l.deep || decide (p.length = l.path.length))
set_option maxHeartbeats 8000000 in
set_option maxRecDepth 100000 in
set_option linter.unusedSimpArgs false in
theorem covers_any (l : LockT) (A B : Option Addr) (c d : Nat) (p : List (List UInt8)) (w : World) (h : Strs w (.slice A l.path.length c) l.path) (hp : Strs w (.slice B p.length d) p) :
    Calls Tryz.prog 36 #[.agg (lockCells l A c).toArray, .slice B p.length d] w (Ret (.bool (coversL l p)) w) := by
  have hba : Below w.heap.size w (w.alloc (.cells (lockCells l A c).toArray 48 (0, 0))) := (Below.refl _ _).alloc (Nat.le_refl _) _
  have HB := Lib.hid hba
  have HW := Lib.hid (UriN.within_any (.slice B p.length d) (.slice A l.path.length c) p l.path _ (hp.below hba (Nat.le_refl _)) (h.below hba (Nat.le_refl _)))
  obtain ⟨tk, path, dp, ex, ow, up⟩ := l
  show Calls Tryz.prog 36 #[.agg #[.string ⟨tk.toArray⟩, .slice A path.length c, .bool dp, .bool ex, .string ⟨ow.toArray⟩, .int .i64 up], .slice B p.length d] w (Ret (.bool (UriN.withinS p path && (dp || decide (p.length = path.length)))) w)
  replace HW : Hid (Calls Tryz.prog 48 #[.slice B p.length d, .slice A path.length c] (w.alloc (.cells #[.string ⟨tk.toArray⟩, .slice A path.length c, .bool dp, .bool ex, .string ⟨ow.toArray⟩, .int .i64 up] 48 (0, 0))) (Same0 (.bool (UriN.withinS p path)) (w.alloc (.cells #[.string ⟨tk.toArray⟩, .slice A path.length c, .bool dp, .bool ex, .string ⟨ow.toArray⟩, .int .i64 up] 48 (0, 0))))) := HW
  replace HB : Hid (Below w.heap.size w (w.alloc (.cells #[.string ⟨tk.toArray⟩, .slice A path.length c, .bool dp, .bool ex, .string ⟨ow.toArray⟩, .int .i64 up] 48 (0, 0)))) := HB
  generalize UriN.withinS p path = wi at *
  obtain ⟨m, hm⟩ : ∃ m, m = path.length := ⟨_, rfl⟩
  obtain ⟨n, hn⟩ : ∃ n, n = p.length := ⟨_, rfl⟩
  rw [← hm, ← hn] at HW ⊢
  rw [← hm] at HB
  obtain ⟨eq, heq⟩ : ∃ eq, eq = decide (n = m) := ⟨_, rfl⟩
  have hq : decide ((n : Int) = (m : Int)) = eq := by rw [heq]; exact decide_eq_decide.2 (by omega)
  have hq2 : ((n : Int) == (m : Int)) = eq := by rw [← hq]; rfl
  rw [← heq]
  obtain ⟨E, hEE⟩ : ∃ E, E = Ret (.bool (wi && (dp || eq))) w := ⟨_, rfl⟩
  rw [← hEE]
  have HEE := Lib.hid hEE
  clear hEE hba h hp hm hn heq
  go_enter Tryz.func36, Tryz.ntmps36
  go_wp2_with fail
  refine HW.out.mono ?_
  rintro e w5 ⟨rfl, rfl⟩
  cases wi
  · go_wp2
    rw [HEE.out]
    exact ⟨rfl, HB.out⟩
  · cases dp
    · go_wp2
      rw [HEE.out]
      exact ⟨rfl, HB.out⟩
    · go_wp2
      rw [HEE.out]
      exact ⟨rfl, HB.out⟩
end Go.Proofs.YtjkiehmjffgnlaaGreatDoor
namespace Go.Proofs.YtjkiehmjffgnlaaGreatDoor
set_option linter.unusedVariables false
set_option linter.unusedSimpArgs false
open Go.RowKit

set_option maxHeartbeats 4000000 in
set_option maxRecDepth 100000 in
set_option linter.unusedSimpArgs false in
theorem name_any (t s n : List UInt8) (a k : Value) (w : World) : Calls Tryz.prog 17 #[.agg #[.string ⟨t.toArray⟩, .string ⟨s.toArray⟩, .string ⟨n.toArray⟩, a, k]] w (RetW (.agg #[.string ⟨s.toArray⟩, .string ⟨n.toArray⟩]) w) := by
  have hG := allocs_grow [(.cells #[.string ⟨t.toArray⟩, .string ⟨s.toArray⟩, .string ⟨n.toArray⟩, a, k] 46 (0, 0)), (.cells #[.string ⟨s.toArray⟩, .string ⟨n.toArray⟩] 52 (0, 0))] w
  have h1 := allocs_at [(.cells #[.string ⟨t.toArray⟩, .string ⟨s.toArray⟩, .string ⟨n.toArray⟩, a, k] 46 (0, 0)), (.cells #[.string ⟨s.toArray⟩, .string ⟨n.toArray⟩] 52 (0, 0))] w 1 _ rfl
  have HG := Lib.hid hG
  have H1 := Lib.hid h1
  clear hG h1
  obtain ⟨E, hEE⟩ : ∃ E, E = RetW (.agg #[.string ⟨s.toArray⟩, .string ⟨n.toArray⟩]) w := ⟨_, rfl⟩
  rw [← hEE]
  have HEE := Lib.hid hEE
  clear hEE
  go_enter Tryz.func17, Tryz.ntmps17
  go_wp2
  refine bodyPost_ret (results_c1 rfl _ _ _ _ _ _ rfl H1.out Tryz.underlying52 rfl (by kernel_rfl)) rfl ?_
  rw [HEE.out]
  exact ⟨rfl, 0, _, HG.out⟩
set_option maxHeartbeats 4000000 in
set_option maxRecDepth 100000 in
set_option linter.unusedSimpArgs false in
theorem bare_any (s n : List UInt8) (w : World) : Calls Tryz.prog 32 #[.agg #[.string ⟨s.toArray⟩, .string ⟨n.toArray⟩]] w (RetW (.agg #[.string ⟨#[]⟩, .string ⟨s.toArray⟩, .string ⟨n.toArray⟩, .slice none 0 0, .slice none 0 0]) w) := by
  have hG := allocs_grow [(.cells #[.string ⟨s.toArray⟩, .string ⟨n.toArray⟩] 52 (0, 0)), (.cells #[.string ⟨#[]⟩, .string ⟨s.toArray⟩, .string ⟨n.toArray⟩, .slice none 0 0, .slice none 0 0] 46 (0, 0))] w
  have h1 := allocs_at [(.cells #[.string ⟨s.toArray⟩, .string ⟨n.toArray⟩] 52 (0, 0)), (.cells #[.string ⟨#[]⟩, .string ⟨s.toArray⟩, .string ⟨n.toArray⟩, .slice none 0 0, .slice none 0 0] 46 (0, 0))] w 1 _ rfl
  have HG := Lib.hid hG
  have H1 := Lib.hid h1
  clear hG h1
  obtain ⟨E, hEE⟩ : ∃ E, E = RetW (.agg #[.string ⟨#[]⟩, .string ⟨s.toArray⟩, .string ⟨n.toArray⟩, .slice none 0 0, .slice none 0 0]) w := ⟨_, rfl⟩
  rw [← hEE]
  have HEE := Lib.hid hEE
  clear hEE
  go_enter Tryz.func32, Tryz.ntmps32
  go_wp2
  refine bodyPost_ret (results_c1 rfl _ _ _ _ _ _ rfl H1.out Tryz.underlying46 rfl (by kernel_rfl)) rfl ?_
  rw [HEE.out]
  exact ⟨rfl, 0, _, HG.out⟩
theorem grow_draws (w : World) (os : Array Obj) (k : Nat) : (Sort.grow w os).drewN k = Sort.grow (w.drewN k) os := rfl
theorem b5 (n : List UInt8) (x : List UInt8) (h : n ≠ x) : (n == x) = false := beq_eq_false_iff_ne.2 h
set_option maxHeartbeats 8000000 in
set_option maxRecDepth 100000 in
set_option linter.unusedSimpArgs false in
theorem protected_any (s n : List UInt8) (w : World) : Calls Tryz.prog 15 #[.agg #[.string ⟨s.toArray⟩, .string ⟨n.toArray⟩]] w (RetW (.bool (protK (s, n))) w) := by
  have HG := Lib.hid (Sort.alloc_eq_grow w (.cells #[.string ⟨s.toArray⟩, .string ⟨n.toArray⟩] 52 (0, 0)))
  obtain ⟨E, hEE⟩ : ∃ E, E = RetW (.bool (protK (s, n))) w := ⟨_, rfl⟩
  rw [← hEE]
  have HEE := Lib.hid hEE
  clear hEE
  have HP := Lib.hid (show protK (s, n) = (decide (n ∈ liveNames) && decide (s = wDav)) from rfl)
  by_cases hn : n ∈ liveNames
  · have HV := Lib.hid (show protK (s, n) = (s == wDav) by rw [HP.out, decide_eq_true hn, Bool.true_and, Bool.eq_iff_iff]; simp)
    unfold liveNames at hn
    simp only [List.mem_cons, List.not_mem_nil, or_false] at hn
    have hd : (s == wDav) = (s == [68, 65, 86, 58]) := rfl
    have HD := Lib.hid hd
    obtain ⟨b, hb⟩ : ∃ b, (s == [68, 65, 86, 58]) = b := ⟨_, rfl⟩
    have HB := Lib.hid hb
    clear hd HP
    rcases hn with rfl | rfl | rfl | rfl | rfl
    all_goals
      cases b
      all_goals
        go_enter Tryz.func15, Tryz.ntmps15
        go_wp2
        rw [HEE.out, HV.out, HD.out, HB.out]
        exact ⟨rfl, 0, _, HG.out⟩
  · have HV := Lib.hid (show protK (s, n) = false by rw [HP.out, decide_eq_false hn]; rfl)
    unfold liveNames at hn
    simp only [List.mem_cons, List.not_mem_nil, or_false, not_or] at hn
    obtain ⟨h1, h2, h3, h4, h5⟩ := hn
    have b1 := b5 n _ h1
    have b2 := b5 n _ h2
    have b3 := b5 n _ h3
    have b4 := b5 n _ h4
    have b6 := b5 n _ h5
    clear h1 h2 h3 h4 h5 HP
    go_enter Tryz.func15, Tryz.ntmps15
    go_wp2
    rw [HEE.out, HV.out]
    exact ⟨rfl, 0, _, HG.out⟩
set_option maxHeartbeats 8000000 in
set_option maxRecDepth 100000 in
set_option linter.unusedSimpArgs false in
theorem same_patch (t s n : List UInt8) (a k : Value) (pb : Nat) (ks kn : List UInt8) (w : World) (hp : w.heap[pb]? = some (.cells #[.string ⟨ks.toArray⟩, .string ⟨kn.toArray⟩] 52 (0, 0))) : Calls Tryz.prog 20 #[.agg #[.string ⟨t.toArray⟩, .string ⟨s.toArray⟩, .string ⟨n.toArray⟩, a, k], .pointer (some ⟨pb, 0, none⟩)] w (RetW (.bool (decide ((s, n) = (ks, kn)))) w) := by
  have HG := Lib.hid (Sort.alloc_eq_grow w (.cells #[.string ⟨t.toArray⟩, .string ⟨s.toArray⟩, .string ⟨n.toArray⟩, a, k] 46 (0, 0)))
  have hq := heap_alloc_new w (.cells #[.string ⟨t.toArray⟩, .string ⟨s.toArray⟩, .string ⟨n.toArray⟩, a, k] 46 (0, 0))
  have hb1 : Below w.heap.size w (w.alloc (.cells #[.string ⟨t.toArray⟩, .string ⟨s.toArray⟩, .string ⟨n.toArray⟩, a, k] 46 (0, 0))) := (Below.refl _ _).alloc (Nat.le_refl _) _
  have hpw := (hb1.block pb (xlt hp)).trans hp
  have HNm := Lib.hid (fun w => name_any t s n a k w)
  obtain ⟨E, hEE⟩ : ∃ E, E = RetW (.bool (decide ((s, n) = (ks, kn)))) w := ⟨_, rfl⟩
  rw [← hEE]
  have HEE := Lib.hid hEE
  clear hEE hb1 hp
  have mixed : Tryz.prog.follows .mixedOrders = true := by kernel_rfl
  go_enter Tryz.func20, Tryz.ntmps20
  go_wp2_with fail
  generalize w.alloc (.cells #[.string ⟨t.toArray⟩, .string ⟨s.toArray⟩, .string ⟨n.toArray⟩, a, k] 46 (0, 0)) = w1 at *
  obtain ⟨q, hqe⟩ : ∃ q, q = w.heap.size := ⟨_, rfl⟩
  rw [← hqe] at hq ⊢
  have hql := xlt hq
  have hpl := xlt hpw
  have x0 := xat hq 0
  have x1 := xat hq 1
  have x2 := xat hq 2
  have x3 := xat hq 3
  have x4 := xat hq 4
  have y0 := xat hpw 0
  have y1 := xat hpw 1
  simp only [List.getElem?_toArray, List.getElem?_cons_zero, List.getElem?_cons_succ] at x0 x1 x2 x3 x4 y0 y1
  have r0 := fun n os => cell_grown (a := ⟨q, 0, none⟩) hql x0 n os
  have r1 := fun n os => cell_grown (a := ⟨q, 1, none⟩) hql x1 n os
  have r2 := fun n os => cell_grown (a := ⟨q, 2, none⟩) hql x2 n os
  have r3 := fun n os => cell_grown (a := ⟨q, 3, none⟩) hql x3 n os
  have r4 := fun n os => cell_grown (a := ⟨q, 4, none⟩) hql x4 n os
  have t0 := fun n os => cell_grown (a := ⟨pb, 0, none⟩) hpl y0 n os
  have t1 := fun n os => cell_grown (a := ⟨pb, 1, none⟩) hpl y1 n os
  clear x0 x1 x2 x3 x4 y0 y1 hq hpw hqe hql hpl
  by_cases hs : s = ks
  · subst hs
    by_cases hn : n = kn
    · subst hn
      have HV := Lib.hid (show decide ((s, n) = (s, n)) = true from decide_eq_true rfl)
      go_quiet_grown (first | (go_at_call 17; refine Calls.grown_of (HNm.out _)))
      go_wp2
      rw [HEE.out, HV.out]
      exact ⟨rfl, nq, _, by rw [HG.out, grow_draws, Sort.grow_grow]⟩
    · have hb : (n == kn) = false := beq_eq_false_iff_ne.2 hn
      have HV := Lib.hid (show decide ((s, n) = (s, kn)) = false from decide_eq_false (fun e => hn (congrArg Prod.snd e)))
      go_quiet_grown (first | (go_at_call 17; refine Calls.grown_of (HNm.out _)))
      go_wp2
      rw [HEE.out, HV.out]
      exact ⟨rfl, nq, _, by rw [HG.out, grow_draws, Sort.grow_grow]⟩
  · have hb : (s == ks) = false := beq_eq_false_iff_ne.2 hs
    have HV := Lib.hid (show decide ((s, n) = (ks, kn)) = false from decide_eq_false (fun e => hs (congrArg Prod.fst e)))
    go_quiet_grown (first | (go_at_call 17; refine Calls.grown_of (HNm.out _)))
    go_wp2
    rw [HEE.out, HV.out]
    exact ⟨rfl, nq, _, by rw [HG.out, grow_draws, Sort.grow_grow]⟩
set_option maxHeartbeats 8000000 in
set_option maxRecDepth 100000 in
set_option linter.unusedSimpArgs false in
theorem same_add (t s n : List UInt8) (a k : Value) (pb : Nat) (ks kn : List UInt8) (w : World) (hp : w.heap[pb]? = some (.cells #[.string ⟨ks.toArray⟩, .string ⟨kn.toArray⟩] 52 (0, 0))) : Calls Tryz.prog 39 #[.agg #[.string ⟨t.toArray⟩, .string ⟨s.toArray⟩, .string ⟨n.toArray⟩, a, k], .pointer (some ⟨pb, 0, none⟩)] w (RetW (.bool (decide ((s, n) = (ks, kn)))) w) := by
  have HG := Lib.hid (Sort.alloc_eq_grow w (.cells #[.string ⟨t.toArray⟩, .string ⟨s.toArray⟩, .string ⟨n.toArray⟩, a, k] 46 (0, 0)))
  have hq := heap_alloc_new w (.cells #[.string ⟨t.toArray⟩, .string ⟨s.toArray⟩, .string ⟨n.toArray⟩, a, k] 46 (0, 0))
  have hb1 : Below w.heap.size w (w.alloc (.cells #[.string ⟨t.toArray⟩, .string ⟨s.toArray⟩, .string ⟨n.toArray⟩, a, k] 46 (0, 0))) := (Below.refl _ _).alloc (Nat.le_refl _) _
  have hpw := (hb1.block pb (xlt hp)).trans hp
  have HNm := Lib.hid (fun w => name_any t s n a k w)
  obtain ⟨E, hEE⟩ : ∃ E, E = RetW (.bool (decide ((s, n) = (ks, kn)))) w := ⟨_, rfl⟩
  rw [← hEE]
  have HEE := Lib.hid hEE
  clear hEE hb1 hp
  have mixed : Tryz.prog.follows .mixedOrders = true := by kernel_rfl
  go_enter Tryz.func39, Tryz.ntmps39
  go_wp2_with fail
  generalize w.alloc (.cells #[.string ⟨t.toArray⟩, .string ⟨s.toArray⟩, .string ⟨n.toArray⟩, a, k] 46 (0, 0)) = w1 at *
  obtain ⟨q, hqe⟩ : ∃ q, q = w.heap.size := ⟨_, rfl⟩
  rw [← hqe] at hq ⊢
  have hql := xlt hq
  have hpl := xlt hpw
  have x0 := xat hq 0
  have x1 := xat hq 1
  have x2 := xat hq 2
  have x3 := xat hq 3
  have x4 := xat hq 4
  have y0 := xat hpw 0
  have y1 := xat hpw 1
  simp only [List.getElem?_toArray, List.getElem?_cons_zero, List.getElem?_cons_succ] at x0 x1 x2 x3 x4 y0 y1
  have r0 := fun n os => cell_grown (a := ⟨q, 0, none⟩) hql x0 n os
  have r1 := fun n os => cell_grown (a := ⟨q, 1, none⟩) hql x1 n os
  have r2 := fun n os => cell_grown (a := ⟨q, 2, none⟩) hql x2 n os
  have r3 := fun n os => cell_grown (a := ⟨q, 3, none⟩) hql x3 n os
  have r4 := fun n os => cell_grown (a := ⟨q, 4, none⟩) hql x4 n os
  have t0 := fun n os => cell_grown (a := ⟨pb, 0, none⟩) hpl y0 n os
  have t1 := fun n os => cell_grown (a := ⟨pb, 1, none⟩) hpl y1 n os
  clear x0 x1 x2 x3 x4 y0 y1 hq hpw hqe hql hpl
  by_cases hs : s = ks
  · subst hs
    by_cases hn : n = kn
    · subst hn
      have HV := Lib.hid (show decide ((s, n) = (s, n)) = true from decide_eq_true rfl)
      go_quiet_grown (first | (go_at_call 17; refine Calls.grown_of (HNm.out _)))
      go_wp2
      rw [HEE.out, HV.out]
      exact ⟨rfl, nq, _, by rw [HG.out, grow_draws, Sort.grow_grow]⟩
    · have hb : (n == kn) = false := beq_eq_false_iff_ne.2 hn
      have HV := Lib.hid (show decide ((s, n) = (s, kn)) = false from decide_eq_false (fun e => hn (congrArg Prod.snd e)))
      go_quiet_grown (first | (go_at_call 17; refine Calls.grown_of (HNm.out _)))
      go_wp2
      rw [HEE.out, HV.out]
      exact ⟨rfl, nq, _, by rw [HG.out, grow_draws, Sort.grow_grow]⟩
  · have hb : (s == ks) = false := beq_eq_false_iff_ne.2 hs
    have HV := Lib.hid (show decide ((s, n) = (ks, kn)) = false from decide_eq_false (fun e => hs (congrArg Prod.fst e)))
    go_quiet_grown (first | (go_at_call 17; refine Calls.grown_of (HNm.out _)))
    go_wp2
    rw [HEE.out, HV.out]
    exact ⟨rfl, nq, _, by rw [HG.out, grow_draws, Sort.grow_grow]⟩
set_option maxHeartbeats 8000000 in
set_option maxRecDepth 100000 in
set_option linter.unusedSimpArgs false in
theorem same_tell (t s n : List UInt8) (a k : Value) (pb : Nat) (ks kn : List UInt8) (w : World) (hp : w.heap[pb]? = some (.cells #[.string ⟨ks.toArray⟩, .string ⟨kn.toArray⟩] 52 (0, 0))) : Calls Tryz.prog 34 #[.agg #[.string ⟨t.toArray⟩, .string ⟨s.toArray⟩, .string ⟨n.toArray⟩, a, k], .pointer (some ⟨pb, 0, none⟩)] w (RetW (.bool (decide ((s, n) = (ks, kn)))) w) := by
  have HG := Lib.hid (Sort.alloc_eq_grow w (.cells #[.string ⟨t.toArray⟩, .string ⟨s.toArray⟩, .string ⟨n.toArray⟩, a, k] 46 (0, 0)))
  have hq := heap_alloc_new w (.cells #[.string ⟨t.toArray⟩, .string ⟨s.toArray⟩, .string ⟨n.toArray⟩, a, k] 46 (0, 0))
  have hb1 : Below w.heap.size w (w.alloc (.cells #[.string ⟨t.toArray⟩, .string ⟨s.toArray⟩, .string ⟨n.toArray⟩, a, k] 46 (0, 0))) := (Below.refl _ _).alloc (Nat.le_refl _) _
  have hpw := (hb1.block pb (xlt hp)).trans hp
  have HNm := Lib.hid (fun w => name_any t s n a k w)
  obtain ⟨E, hEE⟩ : ∃ E, E = RetW (.bool (decide ((s, n) = (ks, kn)))) w := ⟨_, rfl⟩
  rw [← hEE]
  have HEE := Lib.hid hEE
  clear hEE hb1 hp
  have mixed : Tryz.prog.follows .mixedOrders = true := by kernel_rfl
  go_enter Tryz.func34, Tryz.ntmps34
  go_wp2_with fail
  generalize w.alloc (.cells #[.string ⟨t.toArray⟩, .string ⟨s.toArray⟩, .string ⟨n.toArray⟩, a, k] 46 (0, 0)) = w1 at *
  obtain ⟨q, hqe⟩ : ∃ q, q = w.heap.size := ⟨_, rfl⟩
  rw [← hqe] at hq ⊢
  have hql := xlt hq
  have hpl := xlt hpw
  have x0 := xat hq 0
  have x1 := xat hq 1
  have x2 := xat hq 2
  have x3 := xat hq 3
  have x4 := xat hq 4
  have y0 := xat hpw 0
  have y1 := xat hpw 1
  simp only [List.getElem?_toArray, List.getElem?_cons_zero, List.getElem?_cons_succ] at x0 x1 x2 x3 x4 y0 y1
  have r0 := fun n os => cell_grown (a := ⟨q, 0, none⟩) hql x0 n os
  have r1 := fun n os => cell_grown (a := ⟨q, 1, none⟩) hql x1 n os
  have r2 := fun n os => cell_grown (a := ⟨q, 2, none⟩) hql x2 n os
  have r3 := fun n os => cell_grown (a := ⟨q, 3, none⟩) hql x3 n os
  have r4 := fun n os => cell_grown (a := ⟨q, 4, none⟩) hql x4 n os
  have t0 := fun n os => cell_grown (a := ⟨pb, 0, none⟩) hpl y0 n os
  have t1 := fun n os => cell_grown (a := ⟨pb, 1, none⟩) hpl y1 n os
  clear x0 x1 x2 x3 x4 y0 y1 hq hpw hqe hql hpl
  by_cases hs : s = ks
  · subst hs
    by_cases hn : n = kn
    · subst hn
      have HV := Lib.hid (show decide ((s, n) = (s, n)) = true from decide_eq_true rfl)
      go_quiet_grown (first | (go_at_call 17; refine Calls.grown_of (HNm.out _)))
      go_wp2
      rw [HEE.out, HV.out]
      exact ⟨rfl, nq, _, by rw [HG.out, grow_draws, Sort.grow_grow]⟩
    · have hb : (n == kn) = false := beq_eq_false_iff_ne.2 hn
      have HV := Lib.hid (show decide ((s, n) = (s, kn)) = false from decide_eq_false (fun e => hn (congrArg Prod.snd e)))
      go_quiet_grown (first | (go_at_call 17; refine Calls.grown_of (HNm.out _)))
      go_wp2
      rw [HEE.out, HV.out]
      exact ⟨rfl, nq, _, by rw [HG.out, grow_draws, Sort.grow_grow]⟩
  · have hb : (s == ks) = false := beq_eq_false_iff_ne.2 hs
    have HV := Lib.hid (show decide ((s, n) = (ks, kn)) = false from decide_eq_false (fun e => hs (congrArg Prod.fst e)))
    go_quiet_grown (first | (go_at_call 17; refine Calls.grown_of (HNm.out _)))
    go_wp2
    rw [HEE.out, HV.out]
    exact ⟨rfl, nq, _, by rw [HG.out, grow_draws, Sort.grow_grow]⟩
end Go.Proofs.YtjkiehmjffgnlaaGreatDoor
namespace Go.Proofs.YtjkiehmjffgnlaaGreatDoor
set_option linter.unusedVariables false
set_option linter.unusedSimpArgs false
open Go.RowKit

def idxFrom (k : KeyT) : List NodeT → Nat → Int
  | [], _ => -1
  | x :: l, i => if keyN x = k then i else idxFrom k l (i + 1)
set_option maxHeartbeats 8000000 in
set_option maxRecDepth 100000 in
set_option linter.unusedSimpArgs false in
theorem idx_patch (xs : List NodeT) (A : Option Addr) (m c : Nat) (w : World) (hT : Tab 5 (NodeP anyB) w (.slice A m c) xs) (k : KeyT) (pb : Nat) (hp : w.heap[pb]? = some (.cells #[.string ⟨k.1.toArray⟩, .string ⟨k.2.toArray⟩] 52 (0, 0))) :
    Calls Tryz.prog 33 #[.slice A m c, .func (.func 20) #[] #[.pointer (some ⟨pb, 0, none⟩)]] w (RetW (.int .i64 (idxFrom k xs 0)) w) := by
  obtain ⟨hm, hmc, hcm, hat⟩ := kid_atT hT
  unfold maxLen at hcm
  obtain ⟨I, hI⟩ : ∃ I, I = idxFrom k xs 0 := ⟨_, rfl⟩
  rw [← hI]
  obtain ⟨E, hEE⟩ : ∃ E, E = RetW (.int .i64 I) w := ⟨_, rfl⟩
  rw [← hEE]
  have HEE := Lib.hid hEE
  have HI := Lib.hid (show idxFrom k (xs.drop 0) 0 = I from hI.symm)
  have HAt := Lib.hid hat
  have HM := Lib.hid hm
  have HP := Lib.hid hp
  obtain ⟨ks, kn⟩ := k
  clear hT hI hEE hat hm hp
  go_enter Tryz.func33, Tryz.ntmps33
  go_wp2_with fail
  go_loopg [8] m (fun gk v8 wr => ∃ i : Nat, i + gk = m ∧ v8 = .int .i64 i ∧ Hid (idxFrom (ks, kn) (xs.drop i) i = I) ∧ Hid (∃ q os, wr = Sort.grow (w.drewN q) os))
  case atStart => exact ⟨0, by omega, by go_num, HI, Lib.hid ⟨0, #[], by rw [Sort.grow_empty]; rfl⟩⟩
  case round =>
    obtain ⟨i, hig, rfl, HIx, HW⟩ := hrel
    clear HI
    rcases hd : xs.drop i with _ | ⟨x, rest⟩
    · have hi2 : i = m := by have := drop_nil hd; have := HM.out; omega
      have hIv : I = -1 := by have := HIx.out; rw [hd] at this; exact this.symm
      have HIv := Lib.hid hIv
      have k1 : ¬ (i : Int) < m := by omega
      clear hd HIx hIv
      go_wp2
      rw [HEE.out, HIv.out]
      exact ⟨rfl, HW.out⟩
    · obtain ⟨hlt, hx, hr⟩ := drop_consA hd
      obtain ⟨b, o, aA, ac, kA, kc, rfl, hbl, e0, e1, e2, e3, e4, -⟩ := HAt.out i x hx
      have hbw : Below w.heap.size w wr := by obtain ⟨q, os, e⟩ := HW.out; rw [e]; exact below_grown w q os
      have d0 := (hbw.cell (p := ⟨b, o + i * 5, none⟩) hbl).trans e0
      have d1 := (hbw.cell (p := ⟨b, o + i * 5 + 1, none⟩) hbl).trans e1
      have d2 := (hbw.cell (p := ⟨b, o + i * 5 + 2, none⟩) hbl).trans e2
      have d3 := (hbw.cell (p := ⟨b, o + i * 5 + 3, none⟩) hbl).trans e3
      have d4 := (hbw.cell (p := ⟨b, o + i * 5 + 4, none⟩) hbl).trans e4
      have hpw := (hbw.block pb (xlt HP.out)).trans HP.out
      have HC := Lib.hid (same_patch x.text x.space x.name (.slice aA x.attrs.length ac) (.slice kA x.kids.length kc) pb ks kn wr hpw)
      have k1 : (i : Int) < m := by have := HM.out; omega
      have k2 : (0 : Int) ≤ i := by omega
      have HIn := Lib.hid (show (if keyN x = (ks, kn) then (i : Int) else idxFrom (ks, kn) rest (i + 1)) = I by have := HIx.out; rw [hd] at this; exact this)
      have HRe := Lib.hid hr
      have hkn : keyN x = (x.space, x.name) := rfl
      have HKn := Lib.hid hkn
      obtain ⟨bb, hbb⟩ : ∃ bb, bb = decide ((x.space, x.name) = (ks, kn)) := ⟨_, rfl⟩
      rw [← hbb] at HC
      have HBB := Lib.hid hbb
      clear hd hx hr e0 e1 e2 e3 e4 hbw hpw hkn hbb HIx
      go_wp2_with fail
      refine HC.out.mono ?_
      rintro e w5 ⟨rfl, q, os, he⟩
      have HW5 := Lib.hid (show ∃ q os, w5 = Sort.grow (w.drewN q) os by
        obtain ⟨q0, os0, e0⟩ := HW.out
        exact ⟨q0 + q, os0 ++ os, by rw [he, e0, grow_draws, Sort.grow_grow, World.drewN_drewN]⟩)
      clear he HC HW d0 d1 d2 d3 d4
      cases bb
      · have HIx2 := Lib.hid (show idxFrom (ks, kn) (xs.drop (i + 1)) (i + 1) = I by
          rw [HRe.out, ← HIn.out, if_neg]
          rw [HKn.out]
          exact of_decide_eq_false HBB.out.symm)
        clear HIn HRe HKn HBB
        go_wp2
        go_roundg (gk - 1)
        case measure => omega
        case rel => exact ⟨i + 1, by omega, by go_num, HIx2, HW5⟩
      · have HIv := Lib.hid (show I = (i : Int) by
          rw [← HIn.out, if_pos]
          rw [HKn.out]
          exact of_decide_eq_true HBB.out.symm)
        clear HIn HRe HKn HBB
        go_wp2
        rw [HEE.out, HIv.out]
        exact ⟨rfl, HW5.out⟩
set_option maxHeartbeats 8000000 in
set_option maxRecDepth 100000 in
set_option linter.unusedSimpArgs false in
theorem idx_add (xs : List NodeT) (A : Option Addr) (m c : Nat) (w : World) (hT : Tab 5 (NodeP anyB) w (.slice A m c) xs) (k : KeyT) (pb : Nat) (hp : w.heap[pb]? = some (.cells #[.string ⟨k.1.toArray⟩, .string ⟨k.2.toArray⟩] 52 (0, 0))) :
    Calls Tryz.prog 33 #[.slice A m c, .func (.func 39) #[] #[.pointer (some ⟨pb, 0, none⟩)]] w (RetW (.int .i64 (idxFrom k xs 0)) w) := by
  obtain ⟨hm, hmc, hcm, hat⟩ := kid_atT hT
  unfold maxLen at hcm
  obtain ⟨I, hI⟩ : ∃ I, I = idxFrom k xs 0 := ⟨_, rfl⟩
  rw [← hI]
  obtain ⟨E, hEE⟩ : ∃ E, E = RetW (.int .i64 I) w := ⟨_, rfl⟩
  rw [← hEE]
  have HEE := Lib.hid hEE
  have HI := Lib.hid (show idxFrom k (xs.drop 0) 0 = I from hI.symm)
  have HAt := Lib.hid hat
  have HM := Lib.hid hm
  have HP := Lib.hid hp
  obtain ⟨ks, kn⟩ := k
  clear hT hI hEE hat hm hp
  go_enter Tryz.func33, Tryz.ntmps33
  go_wp2_with fail
  go_loopg [8] m (fun gk v8 wr => ∃ i : Nat, i + gk = m ∧ v8 = .int .i64 i ∧ Hid (idxFrom (ks, kn) (xs.drop i) i = I) ∧ Hid (∃ q os, wr = Sort.grow (w.drewN q) os))
  case atStart => exact ⟨0, by omega, by go_num, HI, Lib.hid ⟨0, #[], by rw [Sort.grow_empty]; rfl⟩⟩
  case round =>
    obtain ⟨i, hig, rfl, HIx, HW⟩ := hrel
    clear HI
    rcases hd : xs.drop i with _ | ⟨x, rest⟩
    · have hi2 : i = m := by have := drop_nil hd; have := HM.out; omega
      have hIv : I = -1 := by have := HIx.out; rw [hd] at this; exact this.symm
      have HIv := Lib.hid hIv
      have k1 : ¬ (i : Int) < m := by omega
      clear hd HIx hIv
      go_wp2
      rw [HEE.out, HIv.out]
      exact ⟨rfl, HW.out⟩
    · obtain ⟨hlt, hx, hr⟩ := drop_consA hd
      obtain ⟨b, o, aA, ac, kA, kc, rfl, hbl, e0, e1, e2, e3, e4, -⟩ := HAt.out i x hx
      have hbw : Below w.heap.size w wr := by obtain ⟨q, os, e⟩ := HW.out; rw [e]; exact below_grown w q os
      have d0 := (hbw.cell (p := ⟨b, o + i * 5, none⟩) hbl).trans e0
      have d1 := (hbw.cell (p := ⟨b, o + i * 5 + 1, none⟩) hbl).trans e1
      have d2 := (hbw.cell (p := ⟨b, o + i * 5 + 2, none⟩) hbl).trans e2
      have d3 := (hbw.cell (p := ⟨b, o + i * 5 + 3, none⟩) hbl).trans e3
      have d4 := (hbw.cell (p := ⟨b, o + i * 5 + 4, none⟩) hbl).trans e4
      have hpw := (hbw.block pb (xlt HP.out)).trans HP.out
      have HC := Lib.hid (same_add x.text x.space x.name (.slice aA x.attrs.length ac) (.slice kA x.kids.length kc) pb ks kn wr hpw)
      have k1 : (i : Int) < m := by have := HM.out; omega
      have k2 : (0 : Int) ≤ i := by omega
      have HIn := Lib.hid (show (if keyN x = (ks, kn) then (i : Int) else idxFrom (ks, kn) rest (i + 1)) = I by have := HIx.out; rw [hd] at this; exact this)
      have HRe := Lib.hid hr
      have hkn : keyN x = (x.space, x.name) := rfl
      have HKn := Lib.hid hkn
      obtain ⟨bb, hbb⟩ : ∃ bb, bb = decide ((x.space, x.name) = (ks, kn)) := ⟨_, rfl⟩
      rw [← hbb] at HC
      have HBB := Lib.hid hbb
      clear hd hx hr e0 e1 e2 e3 e4 hbw hpw hkn hbb HIx
      go_wp2_with fail
      refine HC.out.mono ?_
      rintro e w5 ⟨rfl, q, os, he⟩
      have HW5 := Lib.hid (show ∃ q os, w5 = Sort.grow (w.drewN q) os by
        obtain ⟨q0, os0, e0⟩ := HW.out
        exact ⟨q0 + q, os0 ++ os, by rw [he, e0, grow_draws, Sort.grow_grow, World.drewN_drewN]⟩)
      clear he HC HW d0 d1 d2 d3 d4
      cases bb
      · have HIx2 := Lib.hid (show idxFrom (ks, kn) (xs.drop (i + 1)) (i + 1) = I by
          rw [HRe.out, ← HIn.out, if_neg]
          rw [HKn.out]
          exact of_decide_eq_false HBB.out.symm)
        clear HIn HRe HKn HBB
        go_wp2
        go_roundg (gk - 1)
        case measure => omega
        case rel => exact ⟨i + 1, by omega, by go_num, HIx2, HW5⟩
      · have HIv := Lib.hid (show I = (i : Int) by
          rw [← HIn.out, if_pos]
          rw [HKn.out]
          exact of_decide_eq_true HBB.out.symm)
        clear HIn HRe HKn HBB
        go_wp2
        rw [HEE.out, HIv.out]
        exact ⟨rfl, HW5.out⟩
set_option maxHeartbeats 8000000 in
set_option maxRecDepth 100000 in
set_option linter.unusedSimpArgs false in
theorem idx_tell (xs : List NodeT) (A : Option Addr) (m c : Nat) (w : World) (hT : Tab 5 (NodeP anyB) w (.slice A m c) xs) (k : KeyT) (pb : Nat) (hp : w.heap[pb]? = some (.cells #[.string ⟨k.1.toArray⟩, .string ⟨k.2.toArray⟩] 52 (0, 0))) :
    Calls Tryz.prog 33 #[.slice A m c, .func (.func 34) #[] #[.pointer (some ⟨pb, 0, none⟩)]] w (RetW (.int .i64 (idxFrom k xs 0)) w) := by
  obtain ⟨hm, hmc, hcm, hat⟩ := kid_atT hT
  unfold maxLen at hcm
  obtain ⟨I, hI⟩ : ∃ I, I = idxFrom k xs 0 := ⟨_, rfl⟩
  rw [← hI]
  obtain ⟨E, hEE⟩ : ∃ E, E = RetW (.int .i64 I) w := ⟨_, rfl⟩
  rw [← hEE]
  have HEE := Lib.hid hEE
  have HI := Lib.hid (show idxFrom k (xs.drop 0) 0 = I from hI.symm)
  have HAt := Lib.hid hat
  have HM := Lib.hid hm
  have HP := Lib.hid hp
  obtain ⟨ks, kn⟩ := k
  clear hT hI hEE hat hm hp
  go_enter Tryz.func33, Tryz.ntmps33
  go_wp2_with fail
  go_loopg [8] m (fun gk v8 wr => ∃ i : Nat, i + gk = m ∧ v8 = .int .i64 i ∧ Hid (idxFrom (ks, kn) (xs.drop i) i = I) ∧ Hid (∃ q os, wr = Sort.grow (w.drewN q) os))
  case atStart => exact ⟨0, by omega, by go_num, HI, Lib.hid ⟨0, #[], by rw [Sort.grow_empty]; rfl⟩⟩
  case round =>
    obtain ⟨i, hig, rfl, HIx, HW⟩ := hrel
    clear HI
    rcases hd : xs.drop i with _ | ⟨x, rest⟩
    · have hi2 : i = m := by have := drop_nil hd; have := HM.out; omega
      have hIv : I = -1 := by have := HIx.out; rw [hd] at this; exact this.symm
      have HIv := Lib.hid hIv
      have k1 : ¬ (i : Int) < m := by omega
      clear hd HIx hIv
      go_wp2
      rw [HEE.out, HIv.out]
      exact ⟨rfl, HW.out⟩
    · obtain ⟨hlt, hx, hr⟩ := drop_consA hd
      obtain ⟨b, o, aA, ac, kA, kc, rfl, hbl, e0, e1, e2, e3, e4, -⟩ := HAt.out i x hx
      have hbw : Below w.heap.size w wr := by obtain ⟨q, os, e⟩ := HW.out; rw [e]; exact below_grown w q os
      have d0 := (hbw.cell (p := ⟨b, o + i * 5, none⟩) hbl).trans e0
      have d1 := (hbw.cell (p := ⟨b, o + i * 5 + 1, none⟩) hbl).trans e1
      have d2 := (hbw.cell (p := ⟨b, o + i * 5 + 2, none⟩) hbl).trans e2
      have d3 := (hbw.cell (p := ⟨b, o + i * 5 + 3, none⟩) hbl).trans e3
      have d4 := (hbw.cell (p := ⟨b, o + i * 5 + 4, none⟩) hbl).trans e4
      have hpw := (hbw.block pb (xlt HP.out)).trans HP.out
      have HC := Lib.hid (same_tell x.text x.space x.name (.slice aA x.attrs.length ac) (.slice kA x.kids.length kc) pb ks kn wr hpw)
      have k1 : (i : Int) < m := by have := HM.out; omega
      have k2 : (0 : Int) ≤ i := by omega
      have HIn := Lib.hid (show (if keyN x = (ks, kn) then (i : Int) else idxFrom (ks, kn) rest (i + 1)) = I by have := HIx.out; rw [hd] at this; exact this)
      have HRe := Lib.hid hr
      have hkn : keyN x = (x.space, x.name) := rfl
      have HKn := Lib.hid hkn
      obtain ⟨bb, hbb⟩ : ∃ bb, bb = decide ((x.space, x.name) = (ks, kn)) := ⟨_, rfl⟩
      rw [← hbb] at HC
      have HBB := Lib.hid hbb
      clear hd hx hr e0 e1 e2 e3 e4 hbw hpw hkn hbb HIx
      go_wp2_with fail
      refine HC.out.mono ?_
      rintro e w5 ⟨rfl, q, os, he⟩
      have HW5 := Lib.hid (show ∃ q os, w5 = Sort.grow (w.drewN q) os by
        obtain ⟨q0, os0, e0⟩ := HW.out
        exact ⟨q0 + q, os0 ++ os, by rw [he, e0, grow_draws, Sort.grow_grow, World.drewN_drewN]⟩)
      clear he HC HW d0 d1 d2 d3 d4
      cases bb
      · have HIx2 := Lib.hid (show idxFrom (ks, kn) (xs.drop (i + 1)) (i + 1) = I by
          rw [HRe.out, ← HIn.out, if_neg]
          rw [HKn.out]
          exact of_decide_eq_false HBB.out.symm)
        clear HIn HRe HKn HBB
        go_wp2
        go_roundg (gk - 1)
        case measure => omega
        case rel => exact ⟨i + 1, by omega, by go_num, HIx2, HW5⟩
      · have HIv := Lib.hid (show I = (i : Int) by
          rw [← HIn.out, if_pos]
          rw [HKn.out]
          exact of_decide_eq_true HBB.out.symm)
        clear HIn HRe HKn HBB
        go_wp2
        rw [HEE.out, HIv.out]
        exact ⟨rfl, HW5.out⟩
theorem idxFrom_has (k : KeyT) : ∀ (l : List NodeT) (i : Nat), decide (0 ≤ idxFrom k l i) = hasK l k
  | [], i => rfl
  | x :: l, i => by
    unfold idxFrom hasK
    by_cases h : keyN x = k
    · rw [if_pos h, List.any_cons, decide_eq_true h, Bool.true_or]; exact decide_eq_true (by omega)
    · rw [if_neg h, List.any_cons, decide_eq_false h, Bool.false_or]; exact idxFrom_has k l (i + 1)
set_option maxHeartbeats 8000000 in
set_option maxRecDepth 100000 in
set_option linter.unusedSimpArgs false in
theorem contains_add (xs : List NodeT) (A : Option Addr) (m c : Nat) (w : World) (hT : Tab 5 (NodeP anyB) w (.slice A m c) xs) (k : KeyT) (pb : Nat) (hp : w.heap[pb]? = some (.cells #[.string ⟨k.1.toArray⟩, .string ⟨k.2.toArray⟩] 52 (0, 0))) :
    Calls Tryz.prog 38 #[.slice A m c, .func (.func 39) #[] #[.pointer (some ⟨pb, 0, none⟩)]] w (RetW (.bool (hasK xs k)) w) := by
  have HC := Lib.hid (idx_add xs A m c w hT k pb hp)
  have HV := Lib.hid (idxFrom_has k xs 0)
  obtain ⟨E, hEE⟩ : ∃ E, E = RetW (.bool (hasK xs k)) w := ⟨_, rfl⟩
  rw [← hEE]
  have HEE := Lib.hid hEE
  generalize idxFrom k xs 0 = I at *
  clear hEE hT hp
  go_enter Tryz.func38, Tryz.ntmps38
  go_wp2_with fail
  refine HC.out.mono ?_
  rintro e w5 ⟨rfl, q, os, he⟩
  have HW := Lib.hid he
  clear he HC
  by_cases hI : 0 ≤ I
  · have HV2 := Lib.hid (show hasK xs k = true by rw [← HV.out, decide_eq_true hI])
    go_wp2
    rw [HEE.out, HV2.out]
    exact ⟨rfl, q, os, HW.out⟩
  · have HV2 := Lib.hid (show hasK xs k = false by rw [← HV.out, decide_eq_false hI])
    have hdI : decide (0 ≤ I) = false := decide_eq_false hI
    go_wp2
    rw [HEE.out, HV2.out]
    exact ⟨rfl, q, os, HW.out⟩
end Go.Proofs.YtjkiehmjffgnlaaGreatDoor
namespace Go.Proofs.YtjkiehmjffgnlaaGreatDoor
set_option linter.unusedVariables false
set_option linter.unusedSimpArgs false
open Go.RowKit

theorem five_of {α : Type} {l : List α} (h : l.length = 5) : ∃ a b c d e, l = [a, b, c, d, e] := by
  match l, h with
  | [a, b, c, d, e], _ => exact ⟨a, b, c, d, e, rfl⟩
structure EncOk {α : Type} (enc : α → List Value) : Prop where
  five : ∀ x, (enc x).length = 5
  one : ∀ x, ∀ u ∈ enc x, u.oneCell' = true
def NRow {α : Type} (enc : α → List Value) (B g cap : Nat) (d : List α) (w : World) : Prop := OwnT 46 5 B (d.map enc) (.slice (some ⟨g, 0, none⟩) d.length cap) w
def SoP {α : Type} (enc : α → List Value) (B g cap : Nat) (D : List α → Prop) (w : World) (e : Ending) (w' : World) : Prop := e = .returned (.tuple #[]) ∧ ∃ d', D d' ∧ NRow enc B g cap d' w' ∧ RGr (some g) (some g) w w'
section
variable {α : Type} {enc : α → List Value} {B g cap : Nat} {d : List α} {w w' : World}
theorem NRow.lt (h : NRow enc B g cap d w) : B ≤ g ∧ g < w.heap.size := OwnT.lt h g rfl
theorem NRow.under (h : NRow enc B g cap d w) (hb : Below w.heap.size w w') : NRow enc B g cap d w' := OwnT.below h hb
theorem NRow.len (h : NRow enc B g cap d w) : d.length ≤ cap ∧ cap ≤ maxLen := by
  rcases h.1.2 with ⟨e, -⟩ | ⟨g', c', cur, e, -, -, h1, h2, -⟩
  · cases e
  · injection e with _ _ e
    subst e
    rw [List.length_map] at h1
    exact ⟨h1, h2⟩
theorem NRow.cells (hE : EncOk enc) (h : NRow enc B g cap d w) {j : Nat} {x : α} (hx : d[j]? = some x) : ∃ c0 c1 c2 c3 c4, enc x = [c0, c1, c2, c3, c4] ∧ w.cell? ⟨g, j * 5, none⟩ = some c0 ∧ w.cell? ⟨g, j * 5 + 1, none⟩ = some c1 ∧ w.cell? ⟨g, j * 5 + 2, none⟩ = some c2 ∧ w.cell? ⟨g, j * 5 + 3, none⟩ = some c3 ∧ w.cell? ⟨g, j * 5 + 4, none⟩ = some c4 := by
  obtain ⟨c0, c1, c2, c3, c4, e⟩ := five_of (hE.five x)
  have hr : (d.map enc)[j]? = some [c0, c1, c2, c3, c4] := by rw [List.getElem?_map, hx, ← e]; rfl
  exact ⟨c0, c1, c2, c3, c4, e, OwnT.cellAt h rfl hr (k := 0) rfl, OwnT.cellAt h rfl hr (k := 1) rfl, OwnT.cellAt h rfl hr (k := 2) rfl, OwnT.cellAt h rfl hr (k := 3) rfl, OwnT.cellAt h rfl hr (k := 4) rfl⟩
theorem NRow.of (h : OwnT 46 5 B (d.map enc) (.slice (some ⟨g, 0, none⟩) d.length cap) w) : NRow enc B g cap d w := h
end
theorem exch_at {α : Type} (L1 L2 L3 : List α) (x y : α) : ((L1 ++ x :: (L2 ++ y :: L3)).set L1.length y).set (L1.length + 1 + L2.length) x = L1 ++ y :: (L2 ++ x :: L3) := by
  rw [List.set_append_right _ _ (Nat.le_refl _), Nat.sub_self, List.set_cons_zero, List.set_append_right _ _ (by omega), show L1.length + 1 + L2.length - L1.length = L2.length + 1 by omega, List.set_cons_succ, List.set_append_right _ _ (Nat.le_refl _), Nat.sub_self, List.set_cons_zero]
theorem exch_ready {α : Type} {enc : α → List Value} (hE : EncOk enc) {B g cap L : Nat} {D : List α} {wr : World} (hO : NRow enc B g cap D wr) (hL : D.length = L) {p q : Nat} {x y : α} (hp : D[p]? = some x) (hq : D[q]? = some y) :
    ∃ c0 c1 c2 c3 c4 f0 f1 f2 f3 f4 V1 V2 V3 V4 V5 U1 U2 U3 U4 U5, enc x = [c0, c1, c2, c3, c4] ∧ enc y = [f0, f1, f2, f3, f4] ∧
      (wr.cell? ⟨g, p * 5, none⟩ = some c0 ∧ wr.cell? ⟨g, p * 5 + 1, none⟩ = some c1 ∧ wr.cell? ⟨g, p * 5 + 2, none⟩ = some c2 ∧ wr.cell? ⟨g, p * 5 + 3, none⟩ = some c3 ∧ wr.cell? ⟨g, p * 5 + 4, none⟩ = some c4) ∧
      (wr.cell? ⟨g, q * 5, none⟩ = some f0 ∧ wr.cell? ⟨g, q * 5 + 1, none⟩ = some f1 ∧ wr.cell? ⟨g, q * 5 + 2, none⟩ = some f2 ∧ wr.cell? ⟨g, q * 5 + 3, none⟩ = some f3 ∧ wr.cell? ⟨g, q * 5 + 4, none⟩ = some f4) ∧
      ((store ⟨g, p * 5, none⟩ f0).run Tryz.prog wr.drew = .ok () V1 ∧ (store ⟨g, p * 5 + 1, none⟩ f1).run Tryz.prog V1 = .ok () V2 ∧ (store ⟨g, p * 5 + 2, none⟩ f2).run Tryz.prog V2 = .ok () V3 ∧ (store ⟨g, p * 5 + 3, none⟩ f3).run Tryz.prog V3 = .ok () V4 ∧ (store ⟨g, p * 5 + 4, none⟩ f4).run Tryz.prog V4 = .ok () V5) ∧
      ((store ⟨g, q * 5, none⟩ c0).run Tryz.prog V5 = .ok () U1 ∧ (store ⟨g, q * 5 + 1, none⟩ c1).run Tryz.prog U1 = .ok () U2 ∧ (store ⟨g, q * 5 + 2, none⟩ c2).run Tryz.prog U2 = .ok () U3 ∧ (store ⟨g, q * 5 + 3, none⟩ c3).run Tryz.prog U3 = .ok () U4 ∧ (store ⟨g, q * 5 + 4, none⟩ c4).run Tryz.prog U4 = .ok () U5) ∧
      NRow enc B g cap ((D.set p y).set q x) U5 ∧ RGr (some g) (some g) wr U5 := by
  obtain ⟨c0, c1, c2, c3, c4, hcx, p0, p1, p2, p3, p4⟩ := hO.cells hE hp
  obtain ⟨f0, f1, f2, f3, f4, hcy, q0, q1, q2, q3, q4⟩ := hO.cells hE hq
  have hdr : Below wr.heap.size wr wr.drew := below_draws (Below.refl _ _) 1
  have hpl : p < D.length := (List.getElem?_eq_some_iff.1 hp).1
  have hql : q < D.length := (List.getElem?_eq_some_iff.1 hq).1
  have hD3 : OwnT 46 5 B (D.map enc) (.slice (some ⟨g, 0, none⟩) D.length cap) wr.drew := OwnT.below hO hdr
  obtain ⟨V1, V2, V3, V4, V5, s1, s2, s3, s4, s5, ho5, hg5, hz5⟩ := stores_five Tryz.prog hD3 (g := g) rfl (j := p) (by rw [List.length_map]; exact hpl) f0 f1 f2 f3 f4 (fun u hu => hE.one y u (by rw [hcy]; exact hu))
  obtain ⟨U1, U2, U3, U4, U5, t1, t2, t3, t4, t5, ho6, hg6, hz6⟩ := stores_five Tryz.prog ho5 (g := g) rfl (j := q) (by rw [List.length_set, List.length_map]; exact hql) c0 c1 c2 c3 c4 (fun u hu => hE.one x u (by rw [hcx]; exact hu))
  refine ⟨c0, c1, c2, c3, c4, f0, f1, f2, f3, f4, V1, V2, V3, V4, V5, U1, U2, U3, U4, U5, hcx, hcy, ⟨p0, p1, p2, p3, p4⟩, ⟨q0, q1, q2, q3, q4⟩, ⟨s1, s2, s3, s4, s5⟩, ⟨t1, t2, t3, t4, t5⟩, ?_, (RGr.under hdr).trans ((RGr.of hg5 (.inl rfl)).trans (RGr.of hg6 (.inl rfl)))⟩
  rw [← hcy, ← hcx, ← List.map_set, ← List.map_set] at ho6
  unfold NRow
  rw [List.length_set, List.length_set]
  exact ho6
set_option maxHeartbeats 32000000 in
set_option maxRecDepth 100000 in
set_option linter.unusedSimpArgs false in
theorem swapRange_any {α : Type} {enc : α → List Value} (hE : EncOk enc) (B g cap : Nat) (P X M Y R : List α) (fv : Value) (w : World) (hXY : X.length = Y.length) (a b n L : Nat) (ha : a = P.length) (hb : b = P.length + X.length + M.length) (hn : n = X.length) (hL : L = (P ++ (X ++ (M ++ (Y ++ R)))).length) (h : NRow enc B g cap (P ++ (X ++ (M ++ (Y ++ R)))) w) (hs : L ≤ 1000000000000) :
    Calls Tryz.prog 97 #[.slice (some ⟨g, 0, none⟩) L cap, .int .i64 a, .int .i64 b, .int .i64 n, fv] w (SoP enc B g cap (· = P ++ (Y ++ (M ++ (X ++ R)))) w) := by
  obtain ⟨E, hEE⟩ : ∃ E, E = SoP enc B g cap (· = P ++ (Y ++ (M ++ (X ++ R)))) w := ⟨_, rfl⟩
  rw [← hEE]
  have HEE := Lib.hid hEE
  have HE := Lib.hid hE
  have hLl : L = P.length + (X.length + (M.length + (Y.length + R.length))) := by rw [hL]; simp only [List.length_append]
  have hcap := h.len
  unfold maxLen at hcap
  rw [← hL] at hcap
  obtain ⟨hc1, hc2⟩ := hcap
  have HO0 := Lib.hid h
  have HAll := Lib.hid (⟨ha, hb, hn, hLl, hXY⟩ : a = P.length ∧ b = P.length + X.length + M.length ∧ n = X.length ∧ L = P.length + (X.length + (M.length + (Y.length + R.length))) ∧ X.length = Y.length)
  clear hE h hEE hL ha hb hn hLl hXY
  go_enter Tryz.func97, Tryz.ntmps97
  go_wp2_with fail
  go_loopg [10] n (fun gk v10 wr => ∃ i : Nat, i + gk = n ∧ v10 = .int .i64 i ∧ Hid (NRow enc B g cap (P ++ ((Y.take i ++ X.drop i) ++ (M ++ ((X.take i ++ Y.drop i) ++ R)))) wr) ∧ Hid (RGr (some g) (some g) w wr))
  case atStart => exact ⟨0, by omega, rfl, by rw [List.take_zero, List.take_zero, List.drop_zero, List.drop_zero, List.nil_append, List.nil_append]; exact HO0, Lib.hid (RGr.refl _ _)⟩
  case round =>
    obtain ⟨i, hig, rfl, HO, HR⟩ := hrel
    obtain ⟨ha, hb, hn, hLl, hXY⟩ := HAll.out
    clear HO0
    rcases hx : X.drop i with _ | ⟨x, X'⟩
    · have hi2 : i = n := by have := drop_nil hx; omega
      subst hi2
      have HF := Lib.hid (show NRow enc B g cap (P ++ (Y ++ (M ++ (X ++ R)))) wr by
        have := HO.out
        rw [hx, List.take_of_length_le (by omega), List.take_of_length_le (by omega), show Y.drop i = [] from List.drop_of_length_le (by omega), List.append_nil, List.append_nil] at this
        exact this)
      have k1 : ¬ (i : Int) < i := by omega
      clear hx HO ha hb hn hLl hXY
      go_wp2
      go_end0
      rw [HEE.out]
      exact ⟨rfl, _, rfl, HF.out, HR.out⟩
    · obtain ⟨hlt, hxi, hxr⟩ := drop_consA hx
      rcases hy : Y.drop i with _ | ⟨y, Y'⟩
      · have := drop_nil hy; omega
      obtain ⟨hlt2, hyi, hyr⟩ := drop_consA hy
      have hX'l : X'.length + i + 1 = n := by have := congrArg List.length hx; rw [List.length_drop, List.length_cons] at this; omega
      have e0 : P ++ ((Y.take i ++ X.drop i) ++ (M ++ ((X.take i ++ Y.drop i) ++ R))) = (P ++ Y.take i) ++ x :: ((X' ++ (M ++ X.take i)) ++ y :: (Y' ++ R)) := by rw [hx, hy]; simp
      have e1 : P ++ ((Y.take (i + 1) ++ X.drop (i + 1)) ++ (M ++ ((X.take (i + 1) ++ Y.drop (i + 1)) ++ R))) = (P ++ Y.take i) ++ y :: ((X' ++ (M ++ X.take i)) ++ x :: (Y' ++ R)) := by
        rw [hxr, hyr, List.take_add_one, List.take_add_one, hxi, hyi]; simp
      have hl1 : (P ++ Y.take i).length = a + i := by rw [List.length_append, List.length_take]; omega
      have hl2 : (P ++ Y.take i).length + 1 + (X' ++ (M ++ X.take i)).length = b + i := by rw [hl1]; simp only [List.length_append, List.length_take]; omega
      have hO := HO.out
      rw [e0] at hO
      have hdl : ((P ++ Y.take i) ++ x :: ((X' ++ (M ++ X.take i)) ++ y :: (Y' ++ R))).length = L := by
        rw [← e0]; simp only [List.length_append, List.length_take, List.length_drop]; omega
      have gx : ((P ++ Y.take i) ++ x :: ((X' ++ (M ++ X.take i)) ++ y :: (Y' ++ R)))[a + i]? = some x := by
        rw [← hl1, List.getElem?_append_right (Nat.le_refl _), Nat.sub_self]; rfl
      have gy : ((P ++ Y.take i) ++ x :: ((X' ++ (M ++ X.take i)) ++ y :: (Y' ++ R)))[b + i]? = some y := by
        rw [← hl2, List.getElem?_append_right (by omega), show (P ++ Y.take i).length + 1 + (X' ++ (M ++ X.take i)).length - (P ++ Y.take i).length = (X' ++ (M ++ X.take i)).length + 1 by omega, List.getElem?_cons_succ, List.getElem?_append_right (Nat.le_refl _), Nat.sub_self]; rfl
      have HX := Lib.hid (exch_at (P ++ Y.take i) (X' ++ (M ++ X.take i)) (Y' ++ R) x y)
      rw [hl1, show a + i + 1 + (X' ++ (M ++ X.take i)).length = b + i by rw [← hl2, hl1]] at HX
      rw [← e1] at HX
      obtain ⟨c0, c1, c2, c3, c4, hcx, p0, p1, p2, p3, p4⟩ := hO.cells HE.out gx
      obtain ⟨f0, f1, f2, f3, f4, hcy, q0, q1, q2, q3, q4⟩ := hO.cells HE.out gy
      obtain ⟨D, hD⟩ : ∃ D, D = (P ++ Y.take i) ++ x :: ((X' ++ (M ++ X.take i)) ++ y :: (Y' ++ R)) := ⟨_, rfl⟩
      rw [← hD] at hO hdl HX
      have HO2 := Lib.hid hO
      have HCx := Lib.hid hcx
      have HCy := Lib.hid hcy
      have HDl := Lib.hid hdl
      have HD2 := Lib.hid (show OwnT 46 5 B (D.map enc) (.slice (some ⟨g, 0, none⟩) L cap) wr by have := hO; unfold NRow at this; rw [hdl] at this; exact this)
      have hx5 : ([c0, c1, c2, c3, c4] : List Value).length = 5 := rfl
      have HO1x := Lib.hid (fun u (hu : u ∈ [c0, c1, c2, c3, c4]) => HE.out.one x u (by rw [hcx]; exact hu))
      have HO1y := Lib.hid (fun u (hu : u ∈ [f0, f1, f2, f3, f4]) => HE.out.one y u (by rw [hcy]; exact hu))
      have k0 : (i : Int) < n := by omega
      have k1 : (a : Int) + i < L := by omega
      have k2 : (b : Int) + i < L := by omega
      have k3 : (0 : Int) ≤ (a : Int) + i := by omega
      have k4 : (0 : Int) ≤ (b : Int) + i := by omega
      have k5 : ((a : Int) + i).toNat = a + i := by omega
      have k6 : ((b : Int) + i).toNat = b + i := by omega
      have m1 : IntKind.i64.wrap ((a : Int) + i) = ((a + i : Nat) : Int) := IntWalk.i64_in _ (by omega)
      have m2 : IntKind.i64.wrap ((b : Int) + i) = ((b + i : Nat) : Int) := IntWalk.i64_in _ (by omega)
      have hgl := hO.lt
      have hal : a + i < D.length := by rw [hdl]; omega
      have hbl : b + i < D.length := by rw [hdl]; omega
      clear hx hy hxi hxr hyi hyr e0 e1 hl1 hl2 hO gx gy hcx hcy HO hD hdl ha hb hn hLl hXY hX'l
      have hdr : Below wr.heap.size wr wr.drew := below_draws (Below.refl _ _) 1
      have hD3 : OwnT 46 5 B (D.map enc) (.slice (some ⟨g, 0, none⟩) L cap) wr.drew := OwnT.below HD2.out hdr
      obtain ⟨V1, V2, V3, V4, V5, s1, s2, s3, s4, s5, ho5, hg5, hz5⟩ := stores_five Tryz.prog hD3 (g := g) rfl (j := a + i) (by rw [List.length_map]; exact hal) f0 f1 f2 f3 f4 HO1y.out
      obtain ⟨U1, U2, U3, U4, U5, t1, t2, t3, t4, t5, ho6, hg6, hz6⟩ := stores_five Tryz.prog ho5 (g := g) rfl (j := b + i) (by rw [List.length_set, List.length_map]; exact hbl) c0 c1 c2 c3 c4 HO1x.out
      have HF := Lib.hid (show NRow enc B g cap (P ++ ((Y.take (i + 1) ++ X.drop (i + 1)) ++ (M ++ ((X.take (i + 1) ++ Y.drop (i + 1)) ++ R)))) U5 by
        have h0 := ho6
        rw [← HCy.out, ← HCx.out, ← List.map_set, ← List.map_set] at h0
        rw [← HX.out]
        unfold NRow
        rw [List.length_set, List.length_set, HDl.out]
        exact h0)
      have HR5 := Lib.hid (HR.out.trans ((RGr.under hdr).trans ((RGr.of hg5 (.inl rfl)).trans (RGr.of hg6 (.inl rfl)))))
      clear ho5 hg5 ho6 hg6 hD3 hz5 hz6 hdr
      go_upto_region 3 with (fail)
      go_region_law fail
      all_goals
        go_wp2
        go_roundg (gk - 1)
        case measure => omega
        case rel => exact ⟨i + 1, by omega, by go_num, HF, HR5⟩
end Go.Proofs.YtjkiehmjffgnlaaGreatDoor
namespace Go.Proofs.YtjkiehmjffgnlaaGreatDoor
set_option linter.unusedVariables false
set_option linter.unusedSimpArgs false
open Go.RowKit

theorem encD : EncOk NodeD.cells := ⟨fun _ => rfl, fun x u hu => by
  unfold NodeD.cells at hu
  simp only [List.mem_cons, List.not_mem_nil, or_false] at hu
  rcases hu with rfl | rfl | rfl | rfl | rfl <;> rfl⟩
def leD (p q : NodeD) : Bool := leN p.x q.x
theorem leD_ok : LeOk leD := ⟨fun a b => leN_ok.total a.x b.x, fun a b c => leN_ok.trans a.x b.x c.x⟩
def cmpD (p q : NodeD) : Int := cmpK (keyN p.x) (keyN q.x)
theorem cmpD_neg {p q : NodeD} : cmpD p q < 0 ↔ leD q p = false := by
  unfold cmpD leD
  rw [cmpK_neg, Bool.eq_false_iff, Ne, leN_iff]
  exact ⟨fun h h2 => h2 h, fun h => Classical.byContradiction h⟩
theorem cmpD_any (p q : NodeD) {c0 c1 c2 c3 c4 f0 f1 f2 f3 f4 : Value} (hp : p.cells = [c0, c1, c2, c3, c4]) (hq : q.cells = [f0, f1, f2, f3, f4]) (w : World) : Calls Tryz.prog 23 #[.agg #[c0, c1, c2, c3, c4], .agg #[f0, f1, f2, f3, f4]] w (RetW (.int .i64 (cmpD p q)) w) := by
  have h := cmpN_any p q w
  rw [hp, hq] at h
  exact h
theorem exch_back {α : Type} (L1 L3 : List α) (z x : α) : ((L1 ++ z :: (x :: L3)).set (L1.length + 1) z).set L1.length x = L1 ++ x :: (z :: L3) := by
  rw [List.set_append_right _ _ (by omega), show L1.length + 1 - L1.length = 1 by omega, List.set_cons_succ, List.set_cons_zero, List.set_append_right _ _ (Nat.le_refl _), Nat.sub_self, List.set_cons_zero]
set_option maxHeartbeats 64000000 in
set_option maxRecDepth 100000 in
set_option linter.unusedSimpArgs false in
theorem insertion_any (B g cap : Nat) (P A R : List NodeD) (w : World) (a b L : Nat) (ha : a = P.length) (hb : b = P.length + A.length) (hL : L = (P ++ (A ++ R)).length) (h : NRow NodeD.cells B g cap (P ++ (A ++ R)) w) (hs : L ≤ 1000000000000) :
    Calls Tryz.prog 53 #[.slice (some ⟨g, 0, none⟩) L cap, .int .i64 a, .int .i64 b, .func (.func 23) #[] #[]] w (SoP NodeD.cells B g cap (fun d' => ∃ A', d' = P ++ (A' ++ R) ∧ Srt leD A' ∧ Stab leD A A') w) := by
  obtain ⟨E, hEE⟩ : ∃ E, E = SoP NodeD.cells B g cap (fun d' => ∃ A', d' = P ++ (A' ++ R) ∧ Srt leD A' ∧ Stab leD A A') w := ⟨_, rfl⟩
  rw [← hEE]
  have HEE := Lib.hid hEE
  have hLl : L = P.length + (A.length + R.length) := by rw [hL]; simp only [List.length_append]
  have HO0 := Lib.hid h
  obtain ⟨n, hn⟩ : ∃ n, n = A.length := ⟨_, rfl⟩
  have HAll := Lib.hid (⟨ha, by rw [hb, hn, ha], by rw [hLl, hn, ha], hn⟩ : a = P.length ∧ b = a + n ∧ L = a + (n + R.length) ∧ n = A.length)
  have hbL : b ≤ L := by omega
  have habn : b = a + n := by omega
  have Hbn := Lib.hid habn
  clear h hEE hL ha hb hLl hn habn
  have mixed : Tryz.prog.follows .mixedOrders = true := by kernel_rfl
  go_enter Tryz.func53, Tryz.ntmps53
  have m0 : IntKind.i64.wrap ((a : Int) + 1) = ((a + 1 : Nat) : Int) := by rw [IntWalk.i64_in _ (by have := HAll.out; omega)]; omega
  go_wp2_with fail
  go_loopg [8] (n + 1) (fun gk v8 wr => ∃ (s : Nat) (S T : List NodeD), n + 1 ≤ s + gk ∧ 1 ≤ s ∧ s ≤ n + 1 ∧ v8 = .int .i64 ((a + s : Nat) : Int) ∧ Hid (S.length + T.length = n ∧ S.length = min s n) ∧ Hid (Srt leD S) ∧ Hid (Stab leD A (S ++ T)) ∧ Hid (NRow NodeD.cells B g cap (P ++ (S ++ (T ++ R))) wr) ∧ Hid (RGr (some g) (some g) w wr))
  case atStart =>
    have hn := HAll.out.2.2.2
    cases A with
    | nil => exact ⟨1, [], [], by omega, Nat.le_refl _, by omega, by go_num, Lib.hid (by rw [hn]; exact ⟨rfl, rfl⟩), Lib.hid List.Pairwise.nil, Lib.hid (Stab.refl _), HO0, Lib.hid (RGr.refl _ _)⟩
    | cons x T => exact ⟨1, [x], T, by omega, Nat.le_refl _, by omega, by go_num, Lib.hid (by rw [hn]; simp only [List.length_cons, List.length_nil]; omega), Lib.hid (List.pairwise_singleton _ _), Lib.hid (Stab.refl _), HO0, Lib.hid (RGr.refl _ _)⟩
  case round =>
    obtain ⟨s, S, T, hgk, hs1, hsn, rfl, HN, HSr, HSt, HO, HR⟩ := hrel
    clear HO0
    by_cases hlt : s < n
    · rcases T with _ | ⟨x, T'⟩
      · have := HN.out; simp only [List.length_nil] at this; omega
      have hSl : S.length = s := by have := HN.out; omega
      have k1 : ((a : Int) + s) < b := by have := Hbn.out; omega
      go_wp2_with fail
      generalize wr = W0 at *
      have HSl := Lib.hid hSl
      clear hSl
      go_loopg [9] s (fun gk v9 wr => ∃ M1 M2 : List NodeD, M1.length ≤ gk ∧ v9 = .int .i64 ((a + M1.length : Nat) : Int) ∧ Hid (S = M1 ++ M2) ∧ Hid (∀ y ∈ M2, leD y x = false) ∧ Hid (NRow NodeD.cells B g cap (P ++ (M1 ++ (x :: (M2 ++ (T' ++ R))))) wr) ∧ Hid (RGr (some g) (some g) w wr))
      case atStart => exact ⟨S, [], by rw [HSl.out]; exact Nat.le_refl _, by rw [HSl.out], Lib.hid (by simp), Lib.hid (fun y hy => by cases hy), HO, HR⟩
      case round =>
        obtain ⟨M1, M2, hM1, rfl, HS, HM2, HO2, HR2⟩ := hrel
        clear HO HR
        rcases List.eq_nil_or_concat M1 with rfl | ⟨M0, z, rfl⟩
        · have HS2 := Lib.hid (insert_at leD_ok (M1 := []) (M2 := M2) (x := x) (by have := HSr.out; rw [HS.out] at this; exact this) (fun y hy => by cases hy) HM2.out)
          have HSt2 := Lib.hid (show Stab leD A ((x :: M2) ++ T') from Stab.trans HSt.out (by
            have := HS2.out.2.app (Stab.refl T')
            rw [← HS.out] at this
            simpa using this))
          have HN2 := Lib.hid (show (x :: M2).length + T'.length = n ∧ (x :: M2).length = min (s + 1) n by
            have h1 := HN.out
            have h2 := congrArg List.length HS.out
            simp only [List.length_cons, List.nil_append] at h1 h2 ⊢
            omega)
          have HSr2 := Lib.hid (show Srt leD (x :: M2) from HS2.out.1)
          have HO3 := Lib.hid (show NRow NodeD.cells B g cap (P ++ ((x :: M2) ++ (T' ++ R))) wr from HO2.out)
          clear HS2 HSt HN HSr HO2 HM2 HS
          simp only [List.length_nil, Nat.add_zero]
          have hdr : Below wr.heap.size wr wr.drew := below_draws (Below.refl _ _) 1
          have hdd : decide ((a : Int) > (a : Int)) = false := decide_eq_false (by omega)
          have hdd2 : ((a : Int) < (a : Int)) = False := by simp
          have HO4 := Lib.hid (HO3.out.under hdr)
          have HR4 := Lib.hid (HR2.out.trans (RGr.under hdr))
          clear HO3 HR2 hdr
          go_upto_region 4 with (fail)
          go_big_region
          all_goals go_wp2
          go_roundg (n - s)
          case measure => omega
          case rel => exact ⟨s + 1, x :: M2, T', by omega, by omega, by omega, by go_num, HN2, HSr2, HSt2, HO4, HR4⟩
        · rw [List.concat_eq_append] at *
          obtain ⟨jp, hjp⟩ : ∃ jp, jp = a + M0.length := ⟨_, rfl⟩
          have hM0 : (M0 ++ [z]).length = M0.length + 1 := by simp
          rw [show a + (M0 ++ [z]).length = jp + 1 by rw [hM0, hjp]; omega]
          have hD : P ++ ((M0 ++ [z]) ++ (x :: (M2 ++ (T' ++ R)))) = (P ++ M0) ++ (z :: (x :: (M2 ++ (T' ++ R)))) := by simp
          have hO2 := HO2.out
          rw [hD] at hO2
          have hl1 : (P ++ M0).length = jp := by rw [List.length_append, hjp]; have := HAll.out.1; omega
          have gz : ((P ++ M0) ++ (z :: (x :: (M2 ++ (T' ++ R)))))[jp]? = some z := by rw [← hl1, List.getElem?_append_right (Nat.le_refl _), Nat.sub_self]; rfl
          have gx : ((P ++ M0) ++ (z :: (x :: (M2 ++ (T' ++ R)))))[jp + 1]? = some x := by rw [← hl1, List.getElem?_append_right (Nat.le_succ _), show (P ++ M0).length + 1 - (P ++ M0).length = 1 by omega]; rfl
          have hDl : ((P ++ M0) ++ (z :: (x :: (M2 ++ (T' ++ R))))).length = L := by
            have h1 := HAll.out
            have h2 := HN.out
            have h3 := congrArg List.length HS.out
            simp only [List.length_append, List.length_cons, List.length_nil] at h2 h3 ⊢
            omega
          obtain ⟨D, hDD⟩ : ∃ D, D = (P ++ M0) ++ (z :: (x :: (M2 ++ (T' ++ R)))) := ⟨_, rfl⟩
          rw [← hDD] at hO2 gz gx hDl
          obtain ⟨c0, c1, c2, c3, c4, hcx, p0, p1, p2, p3, p4⟩ := hO2.cells encD gx
          obtain ⟨f0, f1, f2, f3, f4, hcz, q0, q1, q2, q3, q4⟩ := hO2.cells encD gz
          have HCm := Lib.hid (fun w => cmpD_any x z hcx hcz w)
          have hjL : jp + 1 < L := by have := (List.getElem?_eq_some_iff.1 gx).1; omega
          have hja : a ≤ jp := by omega
          have HHO := Lib.hid hO2
          have HGx := Lib.hid gx
          have HGz := Lib.hid gz
          have HDl := Lib.hid hDl
          have HDD := Lib.hid hDD
          have HL1 := Lib.hid hl1
          have HMl := Lib.hid (show M0.length + 1 ≤ gk by rw [← hM0]; exact hM1)
          have HJp := Lib.hid hjp
          have hlts : (a : Int) < (jp : Int) + 1 := by omega
          have i1 : IntKind.i64.wrap (jp : Int) = (jp : Int) := IntWalk.i64_in _ (by omega)
          have i2 : (jp : Int) + 1 < L := by omega
          have i3 : (jp : Int) < L := by omega
          have i4 : (0 : Int) ≤ (jp : Int) + 1 := by omega
          have i5 : ((jp : Int) + 1).toNat = jp + 1 := by omega
          have hdr : Below wr.heap.size wr wr.drew := below_draws (Below.refl _ _) 1
          clear hO2 gx gz hDl hcx hcz hl1 hjp hM0 hM1 hD hDD HO2
          obtain ⟨c, hc⟩ : ∃ c, c = cmpD x z := ⟨_, rfl⟩
          rw [← hc] at HCm
          have HC := Lib.hid hc
          obtain ⟨bb, hbb⟩ : ∃ bb, bb = decide (c < 0) := ⟨_, rfl⟩
          have HBB := Lib.hid hbb
          clear hc
          have hgl := HHO.out.lt.2
          have r0 := fun n os => cell_grown (a := ⟨g, (jp + 1) * 5, none⟩) hgl p0 n os
          have r1 := fun n os => cell_grown (a := ⟨g, (jp + 1) * 5 + 1, none⟩) hgl p1 n os
          have r2 := fun n os => cell_grown (a := ⟨g, (jp + 1) * 5 + 2, none⟩) hgl p2 n os
          have r3 := fun n os => cell_grown (a := ⟨g, (jp + 1) * 5 + 3, none⟩) hgl p3 n os
          have r4 := fun n os => cell_grown (a := ⟨g, (jp + 1) * 5 + 4, none⟩) hgl p4 n os
          have t0 := fun n os => cell_grown (a := ⟨g, jp * 5, none⟩) hgl q0 n os
          have t1 := fun n os => cell_grown (a := ⟨g, jp * 5 + 1, none⟩) hgl q1 n os
          have t2 := fun n os => cell_grown (a := ⟨g, jp * 5 + 2, none⟩) hgl q2 n os
          have t3 := fun n os => cell_grown (a := ⟨g, jp * 5 + 3, none⟩) hgl q3 n os
          have t4 := fun n os => cell_grown (a := ⟨g, jp * 5 + 4, none⟩) hgl q4 n os
          clear p0 p1 p2 p3 p4 q0 q1 q2 q3 q4 hdr
          clear hbb HBB bb
          by_cases hcn : c < 0
          · have HLe := Lib.hid (show leD z x = false from cmpD_neg.1 (by rw [← HC.out]; exact hcn))
            go_upto_region 4 with (fail)
            go_quiet_grown (first | (go_at_call 23; refine Calls.grown_of (HCm.out _)))
            have HBc := Lib.hid (below_grown wr nq osq)
            clear r0 r1 r2 r3 r4 t0 t1 t2 t3 t4 HCm
            generalize Sort.grow (wr.drewN nq) osq = wc at *
            have hOc := HHO.out.under HBc.out
            obtain ⟨c0, c1, c2, c3, c4, f0, f1, f2, f3, f4, V1, V2, V3, V4, V5, U1, U2, U3, U4, U5, -, -, ⟨p0, p1, p2, p3, p4⟩, ⟨q0, q1, q2, q3, q4⟩, ⟨s0, s1, s2, s3, s4⟩, ⟨t0, t1, t2, t3, t4⟩, hO9, hR9⟩ := exch_ready encD hOc HDl.out HGx.out HGz.out
            have HO9 := Lib.hid (show NRow NodeD.cells B g cap (P ++ (M0 ++ (x :: ((z :: M2) ++ (T' ++ R))))) U5 by
              rw [HDD.out, ← HL1.out, exch_back] at hO9
              simpa using hO9)
            have HR9 := Lib.hid (HR2.out.trans ((RGr.under HBc.out).trans hR9))
            have HS9 := Lib.hid (show S = M0 ++ (z :: M2) by rw [HS.out]; simp)
            have HM9 := Lib.hid (show ∀ y ∈ z :: M2, leD y x = false from fun y hy => (List.mem_cons.1 hy).elim (fun e => by rw [e]; exact HLe.out) (HM2.out y))
            clear hOc hO9 hR9 HR2 HBc HHO HGx HGz HDl HDD HL1 HLe HS HM2
            go_upto_region 6 with (fail)
            go_region_law fail
            all_goals
              go_wp2
              go_roundg (gk - 1)
              case measure => have := HMl.out; omega
              case rel => exact ⟨M0, z :: M2, by have := HMl.out; omega, by rw [HJp.out], HS9, HM9, HO9, HR9⟩
          · have HLe := Lib.hid (show leD z x = true by
              have h0 : ¬ leD z x = false := fun h => hcn (by rw [HC.out]; exact cmpD_neg.2 h)
              simpa using h0)
            go_upto_region 4 with (fail)
            go_quiet_grown (first | (go_at_call 23; refine Calls.grown_of (HCm.out _)))
            have HBc := Lib.hid (below_grown wr nq osq)
            clear r0 r1 r2 r3 r4 t0 t1 t2 t3 t4 HCm
            generalize Sort.grow (wr.drewN nq) osq = wc at *
            have HS2 := Lib.hid (insert_at leD_ok (M1 := M0 ++ [z]) (M2 := M2) (x := x) (by have := HSr.out; rw [HS.out] at this; exact this) (srt_below leD_ok (by have := HSr.out; rw [HS.out] at this; exact this.parts.1) HLe.out) HM2.out)
            have HSt2 := Lib.hid (show Stab leD A (((M0 ++ [z]) ++ (x :: M2)) ++ T') from Stab.trans HSt.out (by
              have := HS2.out.2.app (Stab.refl T')
              rw [← HS.out] at this
              simpa using this))
            have HN2 := Lib.hid (show ((M0 ++ [z]) ++ (x :: M2)).length + T'.length = n ∧ ((M0 ++ [z]) ++ (x :: M2)).length = min (s + 1) n by
              have h1 := HN.out
              have h2 := congrArg List.length HS.out
              simp only [List.length_cons, List.length_append, List.length_nil] at h1 h2 ⊢
              omega)
            have HSr2 := Lib.hid (show Srt leD ((M0 ++ [z]) ++ (x :: M2)) from HS2.out.1)
            have HO4 := Lib.hid (show NRow NodeD.cells B g cap (P ++ (((M0 ++ [z]) ++ (x :: M2)) ++ (T' ++ R))) wc by
              have := HHO.out.under HBc.out
              rw [HDD.out] at this
              simpa using this)
            have HR4 := Lib.hid (HR2.out.trans (RGr.under HBc.out))
            clear HS2 HSt HN HSr HM2 HS HHO HGx HGz HDl HDD HL1 HLe HBc HR2
            go_wp2
            go_roundg (n - s)
            case measure => omega
            case rel => exact ⟨s + 1, (M0 ++ [z]) ++ (x :: M2), T', by omega, by omega, by omega, by go_num, HN2, HSr2, HSt2, HO4, HR4⟩
    · have hse : s = n ∨ s = n + 1 := by omega
      have hT : T = [] := by have := HN.out; exact List.eq_nil_of_length_eq_zero (by omega)
      subst hT
      have k1 : ¬ ((a : Int) + s) < b := by have := Hbn.out; omega
      have HF := Lib.hid (show ∃ A', P ++ (S ++ ([] ++ R)) = P ++ (A' ++ R) ∧ Srt leD A' ∧ Stab leD A A' from ⟨S, by simp, HSr.out, by have := HSt.out; rw [List.append_nil] at this; exact this⟩)
      clear HSr HSt HN
      go_wp2
      go_end0
      rw [HEE.out]
      exact ⟨rfl, _, HF.out, HO.out, HR.out⟩
end Go.Proofs.YtjkiehmjffgnlaaGreatDoor

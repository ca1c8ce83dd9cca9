/-
  Parts of the walks and plain laws of layer 10, joined: AskLk. Conditions: as each theorem states them.
-/
import Derived.Test.YtdnjiemclhbccaaGreatDoorXmlZ35
import Derived.Deep.RegionHeld3
import Derived.Deep.DrawnRows
/-! AskLk -/
namespace Go.Proofs.YtdnjiemclhbccaaGreatDoor
set_option linter.unusedVariables false
set_option linter.unusedSimpArgs false
open Go.RowKit
attribute [local go_sem ↓] Go.wp_at_zero Go.wp_at_succ

theorem at_new {w : World} {o : Obj} {b : Nat} (h : b = w.heap.size) : (w.alloc o).heap[b]? = some o := by subst h; exact heap_alloc_new w o
theorem at_old {w : World} {o x : Obj} {b : Nat} (h : b < w.heap.size) (hx : w.heap[b]? = some x) : (w.alloc o).heap[b]? = some x := (heap_alloc_old w o h).trans hx
theorem alloc3 (w : World) (a b c : Obj) : Below w.heap.size w (((w.alloc a).alloc b).alloc c) ∧ (((w.alloc a).alloc b).alloc c).heap[w.heap.size]? = some a ∧ (((w.alloc a).alloc b).alloc c).heap[w.heap.size + 1]? = some b ∧ (((w.alloc a).alloc b).alloc c).heap[w.heap.size + 1 + 1]? = some c := by
  have s1 : (w.alloc a).heap.size = w.heap.size + 1 := World.size_alloc ..
  have s2 : ((w.alloc a).alloc b).heap.size = w.heap.size + 1 + 1 := (World.size_alloc ..).trans (by rw [s1])
  have b1 : Below w.heap.size w (w.alloc a) := (Below.refl _ _).alloc (Nat.le_refl _) _
  have b2 := b1.alloc b1.size b
  exact ⟨b2.alloc b2.size c, at_old (by rw [s2]; omega) (at_old (by rw [s1]; omega) (at_new rfl)), at_old (by rw [s2]; omega) (at_new s1.symm), at_new s2.symm⟩
theorem row1 {α : Type} {n : Nat} {R : World → List Value → α → Prop} {w : World} {b : Nat} {ty : TypeId} {cs : List Value} {x : α} (h : w.heap[b]? = some (.cells cs.toArray ty (0, 0))) (hl : cs.length = n) (hr : R w cs x) : TabP n R anyB w (.slice (some ⟨b, 0, none⟩) 1 1) [x] :=
  many_row (rows := [cs]) (xs := [x]) (by simpa using h) (by intro r hr; rw [List.mem_singleton.1 hr]; exact hl) rfl (show 1 ≤ maxLen by unfold maxLen; decide) (by intro j r y hr2 hx; have hj := (List.getElem?_eq_some_iff.1 hx).1; simp at hj; subst hj; injection hr2 with hr2; injection hx with hx; subst hr2 hx; exact hr) trivial
theorem bulk_dav (nm : List UInt8) (ks : List NodeT) : bulkT (davN nm ks) = nm.length + 7 + bulkTL ks := by
  show bulkT (.mk [] wDav nm [] ks) = _
  rw [bulkT]
  simp only [List.length_nil, List.map_nil, List.sum_nil]
  show 0 + 4 + nm.length + 3 + _ + _ = _
  omega
theorem bulkTL_one (n : NodeT) : bulkTL [n] = bulkT n + 1 := by rw [bulkTL, bulkTL]
theorem bulk_own (o : NodeT) : bulkT (ownN o) ≤ bulkT o + 13 := by
  unfold ownN
  split
  · rw [bulk_dav, bulkTL]; show 5 + 7 + 0 ≤ _; omega
  · rw [bulk_dav, bulkTL_one]; show 5 + 7 + _ ≤ _; omega
theorem bulk_lock (b : Bool) (o z : NodeT) : bulkT (lockN b o z) ≤ bulkT o + bulkT z + 110 := by
  unfold lockN
  rw [bulk_dav, bulkTL_app]
  have h1 : bulkTL (if z.space = wDav then [] else [z]) ≤ bulkT z + 1 := by
    split
    · rw [bulkTL]; omega
    · rw [bulkTL_one]; omega
  have h2 : bulkTL [davN wScope [davN (scopeW b) []], davN wType [davN wWrite []], ownN o] ≤ bulkT o + 85 := by
    have h3 := bulk_own o
    have h4 : (scopeW b).length ≤ 9 := by cases b <;> decide
    rw [bulkTL, bulkTL, bulkTL, bulkTL, bulk_dav, bulk_dav, bulkTL_one, bulkTL_one, bulk_dav, bulk_dav, bulkTL]
    show 9 + 7 + ((scopeW b).length + 7 + 0 + 1) + 1 + (8 + 7 + (5 + 7 + 0 + 1) + 1 + (bulkT (ownN o) + 1 + 0)) ≤ _
    omega
  show 8 + 7 + _ ≤ _
  omega
theorem small_tree {n : NodeT} (h : bulkT n ≤ 2000000) : SmallN 2000000 n ∧ (formN [] n).length ≤ 90000000000000 ∧ bulkT n ≤ 15000000000000 := ⟨small_of h, by have := form_bulk n []; omega, by omega⟩
theorem ask_eql (a c : Bool) (s t : List UInt8) (w : World) : (binOp .eql 55 (.agg #[.bool a, .string ⟨s.toArray⟩]) (.agg #[.bool c, .string ⟨t.toArray⟩])).run Tryz.prog w = .ok (.bool (a == c && s == t)) w := by
  go_simp
  by_cases h1 : a = c <;> by_cases h2 : s = t <;> simp [h1, h2]
def allocs : World → List Obj → World
  | w, [] => w
  | w, o :: l => allocs (w.alloc o) l
theorem allocs_below : ∀ (l : List Obj) (w : World), Below w.heap.size w (allocs w l)
  | [], w => Below.refl _ _
  | o :: l, w => by
    have h := allocs_below l (w.alloc o)
    have hb := (Below.refl w.heap.size w).alloc (Nat.le_refl _) o
    exact hb.trans (h.mono hb.size)
theorem allocs_at : ∀ (l : List Obj) (w : World) (i : Nat) (o : Obj), l[i]? = some o → (allocs w l).heap[w.heap.size + i]? = some o
  | [], w, i, o, h => by simp at h
  | x :: l, w, 0, o, h => by
    obtain rfl : x = o := by simpa using h
    exact ((allocs_below l (w.alloc x)).block _ (by rw [World.size_alloc]; omega)).trans (heap_alloc_new w x)
  | x :: l, w, i + 1, o, h => by
    have := allocs_at l (w.alloc x) i o (by simpa using h)
    rw [World.size_alloc, Nat.add_assoc, Nat.add_comm 1 i] at this
    exact this
/-- what the first drawn region leaves. -/
def LkEnd (b : Bool) (kA : Option Addr) (m kc : Nat) (w7 : World) (v9 : Value) (w8 : World) : Prop := ∃ (R B3 B1 B2 : Nat), v9 = .pointer (some ⟨R, 0, none⟩) ∧ Hid (w8.heap[R]? = some (.cells #[.string ⟨#[]⟩, .string ⟨#[68, 65, 86, 58]⟩, .string ⟨#[108, 111, 99, 107, 105, 110, 102, 111]⟩, .slice none 0 0, .slice (some ⟨B3, 0, none⟩) 3 3] 26 (0, 0))) ∧ Hid (w8.heap[B3]? = some (.cells #[.string ⟨#[]⟩, .string ⟨#[68, 65, 86, 58]⟩, .string ⟨#[108, 111, 99, 107, 115, 99, 111, 112, 101]⟩, .slice none 0 0, .slice (some ⟨B1, 0, none⟩) 1 1, .string ⟨#[]⟩, .string ⟨#[68, 65, 86, 58]⟩, .string ⟨#[108, 111, 99, 107, 116, 121, 112, 101]⟩, .slice none 0 0, .slice (some ⟨B2, 0, none⟩) 1 1, .string ⟨#[]⟩, .string ⟨#[68, 65, 86, 58]⟩, .string ⟨#[111, 119, 110, 101, 114]⟩, .slice none 0 0, .slice kA m kc] 26 (0, 0))) ∧ Hid (w8.heap[B1]? = some (.cells #[.string ⟨#[]⟩, .string ⟨#[68, 65, 86, 58]⟩, .string ⟨(scopeW b).toArray⟩, .slice none 0 0, .slice none 0 0] 26 (0, 0))) ∧ Hid (w8.heap[B2]? = some (.cells #[.string ⟨#[]⟩, .string ⟨#[68, 65, 86, 58]⟩, .string ⟨#[119, 114, 105, 116, 101]⟩, .slice none 0 0, .slice none 0 0] 26 (0, 0))) ∧ Hid (w7.heap.size ≤ R ∧ B3 ≠ R ∧ B1 ≠ R ∧ B2 ≠ R ∧ B1 ≠ B3 ∧ B2 ≠ B3 ∧ w7.heap.size ≤ B3) ∧ Hid (Below w7.heap.size w7 w8)
theorem lkEnd_of {b : Bool} {kA : Option Addr} {m kc : Nat} {w7 : World} (o1 o2 o3 o4 o5 o6 o7 o8 o9 : Obj) (z i3 i1 i2 : Nat) (hR : [o1, o2, o3, o4, o5, o6, o7, o8, o9][z]? = some (.cells #[.string ⟨#[]⟩, .string ⟨#[68, 65, 86, 58]⟩, .string ⟨#[108, 111, 99, 107, 105, 110, 102, 111]⟩, .slice none 0 0, .slice (some ⟨w7.heap.size + i3, 0, none⟩) 3 3] 26 (0, 0))) (h3 : [o1, o2, o3, o4, o5, o6, o7, o8, o9][i3]? = some (.cells #[.string ⟨#[]⟩, .string ⟨#[68, 65, 86, 58]⟩, .string ⟨#[108, 111, 99, 107, 115, 99, 111, 112, 101]⟩, .slice none 0 0, .slice (some ⟨w7.heap.size + i1, 0, none⟩) 1 1, .string ⟨#[]⟩, .string ⟨#[68, 65, 86, 58]⟩, .string ⟨#[108, 111, 99, 107, 116, 121, 112, 101]⟩, .slice none 0 0, .slice (some ⟨w7.heap.size + i2, 0, none⟩) 1 1, .string ⟨#[]⟩, .string ⟨#[68, 65, 86, 58]⟩, .string ⟨#[111, 119, 110, 101, 114]⟩, .slice none 0 0, .slice kA m kc] 26 (0, 0))) (h1 : [o1, o2, o3, o4, o5, o6, o7, o8, o9][i1]? = some (.cells #[.string ⟨#[]⟩, .string ⟨#[68, 65, 86, 58]⟩, .string ⟨(scopeW b).toArray⟩, .slice none 0 0, .slice none 0 0] 26 (0, 0))) (h2 : [o1, o2, o3, o4, o5, o6, o7, o8, o9][i2]? = some (.cells #[.string ⟨#[]⟩, .string ⟨#[68, 65, 86, 58]⟩, .string ⟨#[119, 114, 105, 116, 101]⟩, .slice none 0 0, .slice none 0 0] 26 (0, 0))) (hne : i3 ≠ z ∧ i1 ≠ z ∧ i2 ≠ z ∧ i1 ≠ i3 ∧ i2 ≠ i3) :
    LkEnd b kA m kc w7 (.pointer (some ⟨w7.heap.size + z, 0, none⟩)) (((((((((w7.alloc o1).alloc o2).alloc o3).alloc o4).alloc o5).alloc o6).alloc o7).alloc o8).alloc o9).drew := by
  have hb := allocs_below [o1, o2, o3, o4, o5, o6, o7, o8, o9] w7
  exact ⟨_, _, _, _, rfl, Lib.hid (allocs_at [o1, o2, o3, o4, o5, o6, o7, o8, o9] w7 z _ hR), Lib.hid (allocs_at [o1, o2, o3, o4, o5, o6, o7, o8, o9] w7 i3 _ h3), Lib.hid (allocs_at [o1, o2, o3, o4, o5, o6, o7, o8, o9] w7 i1 _ h1), Lib.hid (allocs_at [o1, o2, o3, o4, o5, o6, o7, o8, o9] w7 i2 _ h2), Lib.hid (by omega), Lib.hid (below_draws hb 1)⟩
set_option maxHeartbeats 64000000 in
set_option maxRecDepth 100000 in
set_option linter.unusedSimpArgs false in
theorem law_locks (b : Bool) (o z : NodeT) (oaA okA zaA zkA : Option Addr) (oac okc zac zkc : Nat) (w : World) (ho : TreeV w o oaA oac okA okc) (hz : TreeV w z zaA zac zkA zkc) (hbk : bulkT o + bulkT z ≤ 1100000) (hE : XEnv w) :
    Calls Tryz.prog 6 #[.bool b, .agg #[.string ⟨o.text.toArray⟩, .string ⟨o.space.toArray⟩, .string ⟨o.name.toArray⟩, .slice oaA o.attrs.length oac, .slice okA o.kids.length okc], .agg #[.string ⟨z.text.toArray⟩, .string ⟨z.space.toArray⟩, .string ⟨z.name.toArray⟩, .slice zaA z.attrs.length zac, .slice zkA z.kids.length zkc]] w (Ret (.bool true) w) := by
  obtain ⟨E, hEE⟩ : ∃ E, E = Ret (.bool true) w := ⟨_, rfl⟩
  rw [← hEE]
  have HEE := Lib.hid hEE
  have HE := Lib.hid hE
  obtain ⟨hb2, ho2, hz2⟩ := two_alloc w (.cells #[.string ⟨o.text.toArray⟩, .string ⟨o.space.toArray⟩, .string ⟨o.name.toArray⟩, .slice oaA o.attrs.length oac, .slice okA o.kids.length okc] 26 (0, 0)) (.cells #[.string ⟨z.text.toArray⟩, .string ⟨z.space.toArray⟩, .string ⟨z.name.toArray⟩, .slice zaA z.attrs.length zac, .slice zkA z.kids.length zkc] 26 (0, 0))
  have HFx := Lib.hid (fun w' (hb : Below w.heap.size w w') => afixed_any w' (hE.below hb))
  have HB2 := Lib.hid hb2
  have HO2 := Lib.hid ho2
  have HZ2 := Lib.hid hz2
  have HTo := Lib.hid ho
  have HTz := Lib.hid hz
  have HBk := Lib.hid hbk
  clear hEE hE hb2 ho2 hz2 ho hz hbk
  go_enter Tryz.func6, Tryz.ntmps6
  go_wp2_with fail
  generalize (w.alloc (.cells #[.string ⟨o.text.toArray⟩, .string ⟨o.space.toArray⟩, .string ⟨o.name.toArray⟩, .slice oaA o.attrs.length oac, .slice okA o.kids.length okc] 26 (0, 0))).alloc (.cells #[.string ⟨z.text.toArray⟩, .string ⟨z.space.toArray⟩, .string ⟨z.name.toArray⟩, .slice zaA z.attrs.length zac, .slice zkA z.kids.length zkc] 26 (0, 0)) = w2 at *
  obtain ⟨qo, hqo⟩ : ∃ q, q = w.heap.size := ⟨_, rfl⟩
  obtain ⟨qz, hqz⟩ : ∃ q, q = w.heap.size + 1 := ⟨_, rfl⟩
  rw [← hqz, ← hqo] at ⊢
  rw [← hqz] at HZ2
  rw [← hqo] at HO2
  clear hqo hqz
  refine (HFx.out w2 HB2.out).mono ?_
  rintro e w3 ⟨rfl, hb3⟩
  have HB3 := Lib.hid (HB2.out.trans (hb3.mono HB2.out.size))
  have HO3 := Lib.hid ((hb3.block _ (xlt HO2.out)).trans HO2.out)
  have HZ3 := Lib.hid ((hb3.block _ (xlt HZ2.out)).trans HZ2.out)
  clear hb3 HB2 HO2 HZ2 HFx
  go_upto_if 20 with (fail)
  go_cut [7] (fun v wc => v = .string ⟨(scopeW b).toArray⟩ ∧ wc = w3)
  case first =>
    cases b
    all_goals
      go_wp2
      go_meet
      exact ⟨rfl, rfl⟩
  case rest =>
  obtain ⟨rfl, rfl⟩ := hcut
  have x0 := xat HO3.out 0
  have x1 := xat HO3.out 1
  have x2 := xat HO3.out 2
  have x3 := xat HO3.out 3
  have x4 := xat HO3.out 4
  simp only [List.getElem?_toArray, List.getElem?_cons_zero, List.getElem?_cons_succ] at x0 x1 x2 x3 x4
  obtain ⟨hb6, ha6, -, ho6⟩ := alloc3 wc (.cells #[.string ⟨o.text.toArray⟩, .string ⟨o.space.toArray⟩, .string ⟨o.name.toArray⟩, .slice oaA o.attrs.length oac, .slice okA o.kids.length okc] 26 (0, 0)) (.cells #[.string ⟨#[]⟩, .string ⟨#[68, 65, 86, 58]⟩, .string ⟨wOwner.toArray⟩, .slice none 0 0, .slice (some ⟨wc.heap.size, 0, none⟩) 1 1] 26 (0, 0)) (.cells #[.string ⟨#[]⟩, .string ⟨#[68, 65, 86, 58]⟩, .string ⟨wOwner.toArray⟩, .slice none 0 0, .slice (some ⟨wc.heap.size, 0, none⟩) 1 1] 26 (0, 0))
  have HB6 := Lib.hid (HB3.out.trans (hb6.mono HB3.out.size))
  have HO6 := Lib.hid ((hb6.block _ (xlt HO3.out)).trans HO3.out)
  have HZ6 := Lib.hid ((hb6.block _ (xlt HZ3.out)).trans HZ3.out)
  have HP6 := Lib.hid ho6
  have HN6 := Lib.hid (row1 (n := 5) (R := NodeP anyB) (cs := [.string ⟨o.text.toArray⟩, .string ⟨o.space.toArray⟩, .string ⟨o.name.toArray⟩, .slice oaA o.attrs.length oac, .slice okA o.kids.length okc]) (x := o) ha6 rfl (HTo.out.below (HB3.out.trans (hb6.mono HB3.out.size))).node)
  clear ha6 ho6 hb6
  go_upto_region 7 with (go_at_call 22; refine (adav_ex _ _ _ _ _).mono ?_; rintro e w4 ⟨rfl, rfl⟩)
  unfold wOwner at HP6 HN6 HB6 HO6 HZ6
  generalize ((wc.alloc (.cells #[.string ⟨o.text.toArray⟩, .string ⟨o.space.toArray⟩, .string ⟨o.name.toArray⟩, .slice oaA o.attrs.length oac, .slice okA o.kids.length okc] 26 (0, 0))).alloc (.cells #[.string ⟨#[]⟩, .string ⟨#[68, 65, 86, 58]⟩, .string ⟨#[111, 119, 110, 101, 114]⟩, .slice none 0 0, .slice (some ⟨wc.heap.size, 0, none⟩) 1 1] 26 (0, 0))).alloc (.cells #[.string ⟨#[]⟩, .string ⟨#[68, 65, 86, 58]⟩, .string ⟨#[111, 119, 110, 101, 114]⟩, .slice none 0 0, .slice (some ⟨wc.heap.size, 0, none⟩) 1 1] 26 (0, 0)) = w6 at *
  clear x0 x1 x2 x3 x4
  obtain ⟨S, hS⟩ : ∃ S, S = wc.heap.size := ⟨_, rfl⟩
  have hSq : w.heap.size ≤ S ∧ qz < S := ⟨by rw [hS]; exact HB3.out.size, by rw [hS]; exact xlt HZ3.out⟩
  rw [← hS] at HP6 HN6 ⊢
  clear hS
  obtain ⟨q8, hq8⟩ : ∃ q, q = S + 1 + 1 := ⟨_, rfl⟩
  have hq8w : w.heap.size ≤ q8 := by omega
  have hq8z : qz ≠ q8 := by omega
  rw [← hq8] at HP6 ⊢
  clear hq8 hSq
  have y0 := xat HO6.out 0
  have y2 := xat HO6.out 2
  simp only [List.getElem?_toArray, List.getElem?_cons_zero, List.getElem?_cons_succ] at y0 y2
  go_cut [31] (fun v wc => v = .bool (decide (o.name = [] ∧ o.text = [])) ∧ wc = w6)
  case first =>
    clear HTo HTz HBk HE
    by_cases hn : o.name = []
    · have e1 : (o.name == []) = true := by rw [hn]; rfl
      have e2 : o.name.isEmpty = true := by rw [hn]; rfl
      by_cases ht : o.text = []
      · have e3 : (o.text == []) = true := by rw [ht]; rfl
        have e4 : o.text.isEmpty = true := by rw [ht]; rfl
        have HD := Lib.hid (show decide (o.name = [] ∧ o.text = []) = true from decide_eq_true ⟨hn, ht⟩)
        clear hn ht
        go_wp2
        go_meet
        exact ⟨by rw [HD.out], rfl⟩
      · have e3 : (o.text == []) = false := beq_eq_false_iff_ne.2 ht
        have e4 : o.text.isEmpty = false := by cases h : o.text with | nil => exact absurd h ht | cons => rfl
        have HD := Lib.hid (show decide (o.name = [] ∧ o.text = []) = false from decide_eq_false fun h => ht h.2)
        clear hn ht
        go_wp2
        go_meet
        exact ⟨by rw [HD.out], rfl⟩
    · have e1 : (o.name == []) = false := beq_eq_false_iff_ne.2 hn
      have e2 : o.name.isEmpty = false := by cases h : o.name with | nil => exact absurd h hn | cons => rfl
      have HD := Lib.hid (show decide (o.name = [] ∧ o.text = []) = false from decide_eq_false fun h => hn h.1)
      clear hn
      go_wp2
      go_meet
      exact ⟨by rw [HD.out], rfl⟩
  case rest =>
  obtain ⟨rfl, rfl⟩ := hcut
  clear y0 y2
  go_upto_if 31 with (fail)
  go_cut [] (fun w7 => ∃ kA m kc, Hid (Below w.heap.size w w7) ∧ Hid (w7.heap[qz]? = some (.cells #[.string ⟨z.text.toArray⟩, .string ⟨z.space.toArray⟩, .string ⟨z.name.toArray⟩, .slice zaA z.attrs.length zac, .slice zkA z.kids.length zkc] 26 (0, 0))) ∧ Hid (w7.heap[q8]? = some (.cells #[.string ⟨#[]⟩, .string ⟨#[68, 65, 86, 58]⟩, .string ⟨#[111, 119, 110, 101, 114]⟩, .slice none 0 0, .slice kA m kc] 26 (0, 0))) ∧ Hid (NodesP anyB w7 (.slice kA m kc) (ownN o).kids))
  case first =>
    by_cases hnt : o.name = [] ∧ o.text = []
    · have HD := Lib.hid (show (ownN o).kids = [] by unfold ownN; rw [if_pos hnt]; rfl)
      rw [decide_eq_true hnt]
      have hbx : Below wc.heap.size wc (wc.alloc (.cells #[.string ⟨#[]⟩, .string ⟨#[68, 65, 86, 58]⟩, .string ⟨#[111, 119, 110, 101, 114]⟩, .slice none 0 0, .slice none 0 0] 26 (0, 0))) := (Below.refl _ _).alloc (Nat.le_refl _) _
      have HP7 := Lib.hid ((hbx.block _ (xlt HP6.out)).trans HP6.out)
      have HZ7 := Lib.hid ((hbx.block _ (xlt HZ6.out)).trans HZ6.out)
      have HB7 := Lib.hid (HB6.out.trans (hbx.mono HB6.out.size))
      clear hbx hnt
      go_wp2_with (first | (go_at_call 22; refine (adav_ex _ _ _ _ _).mono ?_; rintro e w4 ⟨rfl, rfl⟩) | (refine wpList_store_row rfl 26 _ _ rfl q8 _ rfl rfl 26 _ HP7.out (by kernel_rfl) rfl (by simp [Value.oneCell']) ?_))
      obtain ⟨hb9, hr9⟩ := row_end HB7.out HP7.out hq8w #[.string ⟨#[]⟩, .string ⟨#[68, 65, 86, 58]⟩, .string ⟨#[111, 119, 110, 101, 114]⟩, .slice none 0 0, .slice none 0 0]
      have hz9 := ((grown_row _ q8 #[.string ⟨#[]⟩, .string ⟨#[68, 65, 86, 58]⟩, .string ⟨#[111, 119, 110, 101, 114]⟩, .slice none 0 0, .slice none 0 0]).block qz (xlt HZ7.out) (by intro e; injection e with e; exact hq8z e)).trans HZ7.out
      go_meet
      exact ⟨none, 0, 0, Lib.hid hb9, Lib.hid hz9, Lib.hid hr9, by rw [HD.out]; exact Lib.hid (TabP.nil _ _ _ _)⟩
    · have HD := Lib.hid (show (ownN o).kids = [o] by unfold ownN; rw [if_neg hnt]; rfl)
      rw [decide_eq_false hnt]
      clear hnt
      go_wp2
      go_meet
      exact ⟨some ⟨S, 0, none⟩, 1, 1, HB6, HZ6, HP6, by rw [HD.out]; exact HN6⟩
  case rest =>
  obtain ⟨kA, m, kc, HB7, HZ7, HP7, HN7⟩ := hcut
  clear HB6 HO6 HZ6 HP6 HN6
  obtain ⟨w7, hw7⟩ : ∃ w7, w7 = wc := ⟨_, rfl⟩
  subst hw7
  go_upto_region 9 with (fail)
  go_cut [9] (fun v9 w8 => LkEnd b kA m kc w7 v9 w8)
  case first =>
    clear HTo HTz HBk HE HN7 HB7 HZ7
    have hS0 : (fun wx : World => wx.cell? ⟨q8, 0, none⟩ = some (.string ⟨#[]⟩) ∧ wx.cell? ⟨q8, 1, none⟩ = some (.string ⟨#[68, 65, 86, 58]⟩) ∧ wx.cell? ⟨q8, 2, none⟩ = some (.string ⟨#[111, 119, 110, 101, 114]⟩) ∧ wx.cell? ⟨q8, 3, none⟩ = some (.slice none 0 0) ∧ wx.cell? ⟨q8, 4, none⟩ = some (.slice kA m kc)) w7.drew := ⟨xat HP7.out 0, xat HP7.out 1, xat HP7.out 2, xat HP7.out 3, xat HP7.out 4⟩
    simp only at hS0
    have Hk := Lib.hid (fun (wx : World) (ob : Obj) (h : wx.cell? ⟨q8, 0, none⟩ = some (.string ⟨#[]⟩) ∧ wx.cell? ⟨q8, 1, none⟩ = some (.string ⟨#[68, 65, 86, 58]⟩) ∧ wx.cell? ⟨q8, 2, none⟩ = some (.string ⟨#[111, 119, 110, 101, 114]⟩) ∧ wx.cell? ⟨q8, 3, none⟩ = some (.slice none 0 0) ∧ wx.cell? ⟨q8, 4, none⟩ = some (.slice kA m kc)) => (⟨cell_alloc h.1 ob, cell_alloc h.2.1 ob, cell_alloc h.2.2.1 ob, cell_alloc h.2.2.2.1 ob, cell_alloc h.2.2.2.2 ob⟩ : (wx.alloc ob).cell? ⟨q8, 0, none⟩ = some (.string ⟨#[]⟩) ∧ (wx.alloc ob).cell? ⟨q8, 1, none⟩ = some (.string ⟨#[68, 65, 86, 58]⟩) ∧ (wx.alloc ob).cell? ⟨q8, 2, none⟩ = some (.string ⟨#[111, 119, 110, 101, 114]⟩) ∧ (wx.alloc ob).cell? ⟨q8, 3, none⟩ = some (.slice none 0 0) ∧ (wx.alloc ob).cell? ⟨q8, 4, none⟩ = some (.slice kA m kc)))
    go_region_held3 (fun wx => wx.cell? ⟨q8, 0, none⟩ = some (.string ⟨#[]⟩) ∧ wx.cell? ⟨q8, 1, none⟩ = some (.string ⟨#[68, 65, 86, 58]⟩) ∧ wx.cell? ⟨q8, 2, none⟩ = some (.string ⟨#[111, 119, 110, 101, 114]⟩) ∧ wx.cell? ⟨q8, 3, none⟩ = some (.slice none 0 0) ∧ wx.cell? ⟨q8, 4, none⟩ = some (.slice kA m kc))
      (repeat (first | exact hS0 | assumption | refine Hk.out _ _ ?_))
      (first | (go_at_call 22; refine (adav_ex _ _ _ _ _).mono ?_; rintro e w4 ⟨rfl, rfl⟩))
    all_goals
      go_wp2
      go_meet
      first
        | exact lkEnd_of _ _ _ _ _ _ _ _ _ 8 6 1 4 rfl rfl rfl rfl (by decide)
        | exact lkEnd_of _ _ _ _ _ _ _ _ _ 7 6 1 4 rfl rfl rfl rfl (by decide)
        | exact lkEnd_of _ _ _ _ _ _ _ _ _ 6 7 1 4 rfl rfl rfl rfl (by decide)
        | exact lkEnd_of _ _ _ _ _ _ _ _ _ 5 7 1 4 rfl rfl rfl rfl (by decide)
        | exact lkEnd_of _ _ _ _ _ _ _ _ _ 4 7 1 5 rfl rfl rfl rfl (by decide)
        | exact lkEnd_of _ _ _ _ _ _ _ _ _ 3 7 1 5 rfl rfl rfl rfl (by decide)
        | exact lkEnd_of _ _ _ _ _ _ _ _ _ 2 7 1 5 rfl rfl rfl rfl (by decide)
        | exact lkEnd_of _ _ _ _ _ _ _ _ _ 1 7 2 5 rfl rfl rfl rfl (by decide)
        | exact lkEnd_of _ _ _ _ _ _ _ _ _ 0 7 2 5 rfl rfl rfl rfl (by decide)
  case rest =>
  obtain ⟨R, B3, B1, B2, rfl, HR8, HA8, HB18, HB28, HNe, HB8⟩ := hcut
  obtain ⟨w8, hw8⟩ : ∃ w8, w8 = wc := ⟨_, rfl⟩
  subst hw8
  have hHN := HNe.out
  have HK := Lib.hid (show (lockN b o z).kids = [davN wScope [davN (scopeW b) []], davN wType [davN wWrite []], ownN o] ++ (if z.space = wDav then [] else [z]) from rfl)
  have hn1 : NodeP (fun k => k ≠ R ∧ some k ≠ some B3) w8 [.string ⟨#[]⟩, .string ⟨#[68, 65, 86, 58]⟩, .string ⟨#[108, 111, 99, 107, 115, 99, 111, 112, 101]⟩, .slice none 0 0, .slice (some ⟨B1, 0, none⟩) 1 1] (davN wScope [davN (scopeW b) []]) :=
    NodeP.of (t := []) (s := wDav) (n := wScope) (ats := []) (TabP.nil _ _ _ _) (many_row (rows := [[.string ⟨#[]⟩, .string ⟨#[68, 65, 86, 58]⟩, .string ⟨(scopeW b).toArray⟩, .slice none 0 0, .slice none 0 0]]) (xs := [davN (scopeW b) []]) HB18.out (by intro r hr; rw [List.mem_singleton.1 hr]; rfl) rfl (show 1 ≤ maxLen by unfold maxLen; decide)
      (by intro j r y hr2 hx; have hj := (List.getElem?_eq_some_iff.1 hx).1; simp at hj; subst hj; injection hr2 with hr2; injection hx with hx; subst hr2 hx; exact NodeP.of (t := []) (s := wDav) (n := scopeW b) (ats := []) (ks := []) (TabP.nil _ _ _ _) (TabP.nil _ _ _ _)) ⟨hHN.2.2.1, fun e => by injection e with e; exact hHN.2.2.2.2.1 e⟩)
  have hn2 : NodeP (fun k => k ≠ R ∧ some k ≠ some B3) w8 [.string ⟨#[]⟩, .string ⟨#[68, 65, 86, 58]⟩, .string ⟨#[108, 111, 99, 107, 116, 121, 112, 101]⟩, .slice none 0 0, .slice (some ⟨B2, 0, none⟩) 1 1] (davN wType [davN wWrite []]) :=
    NodeP.of (t := []) (s := wDav) (n := wType) (ats := []) (TabP.nil _ _ _ _) (many_row (rows := [[.string ⟨#[]⟩, .string ⟨#[68, 65, 86, 58]⟩, .string ⟨#[119, 114, 105, 116, 101]⟩, .slice none 0 0, .slice none 0 0]]) (xs := [davN wWrite []]) HB28.out (by intro r hr; rw [List.mem_singleton.1 hr]; rfl) rfl (show 1 ≤ maxLen by unfold maxLen; decide)
      (by intro j r y hr2 hx; have hj := (List.getElem?_eq_some_iff.1 hx).1; simp at hj; subst hj; injection hr2 with hr2; injection hx with hx; subst hr2 hx; exact NodeP.of (t := []) (s := wDav) (n := wWrite) (ats := []) (ks := []) (TabP.nil _ _ _ _) (TabP.nil _ _ _ _)) ⟨hHN.2.2.2.1, fun e => by injection e with e; exact hHN.2.2.2.2.2.1 e⟩)
  have hn3 : NodeP (fun k => k ≠ R ∧ some k ≠ some B3) w8 [.string ⟨#[]⟩, .string ⟨#[68, 65, 86, 58]⟩, .string ⟨#[111, 119, 110, 101, 114]⟩, .slice none 0 0, .slice kA m kc] (ownN o) := by
    have h := NodeP.of (P := fun k => k ≠ R ∧ some k ≠ some B3) (w := w8) (t := []) (s := wDav) (n := wOwner) (ats := []) (av := .slice none 0 0) (TabP.nil _ _ _ _) (HN7.out.move ⟨HB8.out.size, fun k _ hk => ⟨⟨by omega, fun e => by injection e with e; omega⟩, HB8.out.block k hk⟩⟩)
    have e : ownN o = .mk [] wDav wOwner [] (ownN o).kids := by unfold ownN; split <;> rfl
    rw [e]
    exact h
  have HRow := Lib.hid (RowG.lit (e := 26) (n := 5) (R := NodeP) (Q := (· ≠ R)) (B := w7.heap.size) (rows := [[.string ⟨#[]⟩, .string ⟨#[68, 65, 86, 58]⟩, .string ⟨#[108, 111, 99, 107, 115, 99, 111, 112, 101]⟩, .slice none 0 0, .slice (some ⟨B1, 0, none⟩) 1 1], [.string ⟨#[]⟩, .string ⟨#[68, 65, 86, 58]⟩, .string ⟨#[108, 111, 99, 107, 116, 121, 112, 101]⟩, .slice none 0 0, .slice (some ⟨B2, 0, none⟩) 1 1], [.string ⟨#[]⟩, .string ⟨#[68, 65, 86, 58]⟩, .string ⟨#[111, 119, 110, 101, 114]⟩, .slice none 0 0, .slice kA m kc]]) (xs := [davN wScope [davN (scopeW b) []], davN wType [davN wWrite []], ownN o]) HA8.out
    (by intro r hr; simp only [List.mem_cons, List.not_mem_nil, or_false] at hr; rcases hr with rfl | rfl | rfl <;> rfl) rfl (show 3 ≤ maxLen by unfold maxLen; decide) hHN.2.2.2.2.2.2 (by
      intro j r x hr hx
      match j, hr, hx with
      | 0, hr, hx => injection hr with hr; injection hx with hx; subst hr hx; exact hn1
      | 1, hr, hx => injection hr with hr; injection hx with hx; subst hr hx; exact hn2
      | 2, hr, hx => injection hr with hr; injection hx with hx; subst hr hx; exact hn3
      | j + 3, hr, hx => simp at hr))
  have HZ8 := Lib.hid ((HB8.out.block _ (xlt HZ7.out)).trans HZ7.out)
  have HP8 := Lib.hid ((HB8.out.block _ (xlt HP7.out)).trans HP7.out)
  have HNz := Lib.hid (show NodeP (fun k => k ≠ R ∧ some k ≠ (Value.slice (some ⟨B3, 0, none⟩) 3 3).ownBlock) w8 [.string ⟨z.text.toArray⟩, .string ⟨z.space.toArray⟩, .string ⟨z.name.toArray⟩, .slice zaA z.attrs.length zac, .slice zkA z.kids.length zkc] z from HTz.out.node.move ⟨Nat.le_trans HB7.out.size HB8.out.size, fun k _ hk => ⟨⟨by have := HB7.out.size; omega, fun e => by have e2 : k = B3 := Option.some.inj e; have := HB7.out.size; have := hHN.2.2.2.2.2.2; omega⟩, (HB8.out.block k (by have := HB7.out.size; omega)).trans (HB7.out.block k hk)⟩⟩)
  have hR7 := hHN.1
  have hB3R : B3 ≠ R := hHN.2.1
  clear hn1 hn2 hn3 HA8 HB18 HB28 HNe HZ7 hHN HTo HTz
  have z1 := xat HZ8.out 1
  simp only [List.getElem?_toArray, List.getElem?_cons_zero, List.getElem?_cons_succ] at z1
  go_upto_region 10 with (fail)
  go_cut [45] (fun v wc => v = .bool (decide (z.space ≠ wDav)) ∧ wc = w8)
  case first =>
    by_cases hz : z.space = wDav
    · have hz' : z.space = [68, 65, 86, 58] := hz
      have e1 : (z.space == [68, 65, 86, 58]) = true := beq_iff_eq.2 hz'
      have e2 : (z.space != [68, 65, 86, 58]) = false := by rw [bne, e1]; rfl
      have HD := Lib.hid (show decide (z.space ≠ wDav) = false from decide_eq_false fun h => h hz)
      clear hz hz'
      go_wp2
      go_meet
      exact ⟨by rw [HD.out], rfl⟩
    · have e1 : (z.space == [68, 65, 86, 58]) = false := beq_eq_false_iff_ne.2 hz
      have e2 : (z.space != [68, 65, 86, 58]) = true := by rw [bne, e1]; rfl
      have HD := Lib.hid (show decide (z.space ≠ wDav) = true from decide_eq_true hz)
      clear hz
      go_wp2
      go_meet
      exact ⟨by rw [HD.out], rfl⟩
  case rest =>
  obtain ⟨rfl, hwc⟩ := hcut
  subst hwc
  clear z1
  go_upto_if 45 with (fail)
  go_cut [] (fun w9 => ∃ kA3 m3 kc3, Hid (w9.heap[R]? = some (.cells #[.string ⟨#[]⟩, .string ⟨#[68, 65, 86, 58]⟩, .string ⟨#[108, 111, 99, 107, 105, 110, 102, 111]⟩, .slice none 0 0, .slice kA3 m3 kc3] 26 (0, 0))) ∧ Hid (NodesP anyB w9 (.slice kA3 m3 kc3) (lockN b o z).kids) ∧ Hid (Below w7.heap.size w7 w9))
  case first =>
    by_cases hz : z.space = wDav
    · have HD := Lib.hid (show (lockN b o z).kids = [davN wScope [davN (scopeW b) []], davN wType [davN wWrite []], ownN o] by rw [HK.out, if_pos hz]; rfl)
      rw [show decide (z.space ≠ wDav) = false from decide_eq_false fun h => h hz]
      clear hz
      go_wp2
      go_meet
      exact ⟨some ⟨B3, 0, none⟩, 3, 3, HR8, by rw [HD.out]; exact Lib.hid (TabP.any (HRow.out.tab mov_node)), HB8⟩
    · have HD := Lib.hid (show (lockN b o z).kids = [davN wScope [davN (scopeW b) []], davN wType [davN wWrite []], ownN o] ++ [z] by rw [HK.out, if_neg hz])
      rw [show decide (z.space ≠ wDav) = true from decide_eq_true hz]
      have z0 := xat HZ8.out 0
      have z1 := xat HZ8.out 1
      have z2 := xat HZ8.out 2
      have z3 := xat HZ8.out 3
      have z4 := xat HZ8.out 4
      have r4 := xat HR8.out 4
      simp only [List.getElem?_toArray, List.getElem?_cons_zero, List.getElem?_cons_succ] at z0 z1 z2 z3 z4 r4
      have hsz := HB8.out.size
      clear hz
      go_wp2_with (at_builtin; refine wpList_appG elemN mov_node rfl _ _ rfl rfl HRow.out _ z HNz.out _ rfl rfl rfl (by simp [Value.oneCell']) (by simp only [List.length_cons, List.length_nil]; omega) hsz ?_)
      intro v9 w9 hr9 hb9 hg9 hn9
      have hR9 := (hg9.block _ (xlt HR8.out) (fun e => hB3R (Option.some.inj e).symm)).trans HR8.out
      obtain ⟨A9, c9, hv9, -, -⟩ := hr9.form
      subst hv9
      have f4 := xfree hR9 4
      have g4 := xat hR9 4
      simp only [List.getElem?_toArray, List.getElem?_cons_zero, List.getElem?_cons_succ] at g4
      have HRf := Lib.hid (heap_setCell_same w9 R 4 _ _ (.slice A9 4 c9) hR9)
      have HNf := Lib.hid ((hr9.step mov_node (xgrown_cell w9 R 4 (.slice A9 4 c9)) (fun h => h rfl) (fun e => by
        rcases hn9 with hn | ⟨k, hk, hks⟩
        · exact hB3R (Option.some.inj (hn.symm.trans e))
        · have := Option.some.inj (hk.symm.trans e); have := xlt HR8.out; omega)).tab mov_node)
      have HBf := Lib.hid ((HB8.out.trans hb9).setCell (p := ⟨R, 4, none⟩) hR7 (.slice A9 4 c9))
      clear hr9 hb9 hg9 hn9 hR9 z0 z1 z2 z3 z4 r4
      go_wp2
      go_meet
      exact ⟨A9, 4, c9, HRf, by rw [HD.out]; exact Lib.hid (TabP.any HNf.out), HBf⟩
  case rest =>
  obtain ⟨kA3, m3, kc3, HR9, HN9, HB9⟩ := hcut
  obtain ⟨w9, hw9⟩ : ∃ w9, w9 = wc := ⟨_, rfl⟩
  subst hw9
  have HBw := Lib.hid (HB7.out.trans (HB9.out.mono HB7.out.size))
  have HP9 := Lib.hid ((HB9.out.block _ (xlt HP7.out)).trans HP7.out)
  have HNo := Lib.hid (show NodesP anyB w9 (.slice kA m kc) (ownN o).kids from HN7.out.move (Moves.below HB9.out fun _ _ _ => trivial))
  have hT := small_tree (n := lockN b o z) (by have := bulk_lock b o z; have := HBk.out; omega)
  have hT2 := small_tree (n := ownN o) (by have := bulk_own o; have := HBk.out; omega)
  have HT := Lib.hid hT
  have HWa := Lib.hid (show Calls Tryz.prog 16 #[.agg #[.string ⟨#[]⟩, .string ⟨#[68, 65, 86, 58]⟩, .string ⟨#[108, 111, 99, 107, 105, 110, 102, 111]⟩, .slice none 0 0, .slice kA3 m3 kc3]] w9 (WrV (writeX (lockN b o z)) w9) from awrite_dav wLock (lockN b o z).kids kA3 m3 kc3 w9 HN9.out ⟨hT.1, hT.2.1⟩ (HE.out.below HBw.out))
  have HWb := Lib.hid (fun w' (hb : Below w9.heap.size w9 w') => (show Calls Tryz.prog 16 #[.agg #[.string ⟨#[]⟩, .string ⟨#[68, 65, 86, 58]⟩, .string ⟨#[111, 119, 110, 101, 114]⟩, .slice none 0 0, .slice kA m kc]] w' (WrV (writeX (ownN o)) w') from by
    have h := awrite_dav wOwner (ownN o).kids kA m kc w' (HNo.out.move (Moves.below hb fun _ _ _ => trivial)) (by rw [← own_dav]; exact ⟨hT2.1, hT2.2.1⟩) ((HE.out.below HBw.out).below hb)
    rw [← own_dav] at h
    exact h))
  obtain ⟨X1, hX1⟩ : ∃ X, X = writeX (lockN b o z) := ⟨_, rfl⟩
  obtain ⟨X2, hX2⟩ : ∃ X, X = writeX (ownN o) := ⟨_, rfl⟩
  rw [← hX1] at HWa
  rw [← hX2] at HWb
  have HX1 := Lib.hid hX1
  have HX2 := Lib.hid hX2
  have r0 := xat HR9.out 0
  have r1 := xat HR9.out 1
  have r2 := xat HR9.out 2
  have r3 := xat HR9.out 3
  have r4 := xat HR9.out 4
  simp only [List.getElem?_toArray, List.getElem?_cons_zero, List.getElem?_cons_succ] at r0 r1 r2 r3 r4
  clear hT hT2 hX1 hX2 HN7 HB7 HP7 HB8 HR8 HRow HK HZ8 HP8 HNz HN9 HB9 HR9 HBk hR7 hB3R
  go_wp2_with fail
  refine HWa.out.mono ?_
  rintro e w10 ⟨hb10, rfl⟩
  have HB10 := Lib.hid hb10
  have HP10 := Lib.hid ((hb10.block _ (xlt HP9.out)).trans HP9.out)
  have x0 := xat HP10.out 0
  have x1 := xat HP10.out 1
  have x2 := xat HP10.out 2
  have x3 := xat HP10.out 3
  have x4 := xat HP10.out 4
  simp only [List.getElem?_toArray, List.getElem?_cons_zero, List.getElem?_cons_succ] at x0 x1 x2 x3 x4
  clear hb10 HWa HP9 r0 r1 r2 r3 r4
  go_wp2_with fail
  refine (HWb.out w10 HB10.out).mono ?_
  rintro e w11 ⟨hb11, rfl⟩
  have HB11 := Lib.hid (HB10.out.trans (hb11.mono HB10.out.size))
  have HP11 := Lib.hid ((hb11.block _ (xlt HP10.out)).trans HP10.out)
  have HBw11 := Lib.hid (HBw.out.trans (HB11.out.mono HBw.out.size))
  have HNo11 := Lib.hid (show NodesP anyB w11 (.slice kA m kc) (ownN o).kids from HNo.out.move (Moves.below HB11.out fun _ _ _ => trivial))
  clear hb11 HWb HP10 HB10 HNo HBw x0 x1 x2 x3 x4
  rcases X1 with k1 | s
  · have hk1 := write_err HX1.out.symm
    rw [show errX (Except.error k1 : Except Int (List UInt8)) = k1 from rfl]
    clear HX1 HX2
    generalize okOr [] X2 = S2 at *
    generalize errX X2 = K2 at *
    rcases hk1 with rfl | rfl
    all_goals
      go_wp2
      rw [HEE.out]
      exact ⟨rfl, HBw11.out⟩
  rw [show errX (Except.ok s : Except Int (List UInt8)) = 0 from rfl, show okOr [] (Except.ok s : Except Int (List UInt8)) = s from rfl]
  rcases X2 with k2 | form
  · have hk2 := write_err HX2.out.symm
    rw [show errX (Except.error k2 : Except Int (List UInt8)) = k2 from rfl]
    clear HX1 HX2
    generalize okOr [] (Except.error k2 : Except Int (List UInt8)) = S2 at *
    rcases hk2 with rfl | rfl
    all_goals
      go_wp2
      rw [HEE.out]
      exact ⟨rfl, HBw11.out⟩
  rw [show errX (Except.ok form : Except Int (List UInt8)) = 0 from rfl, show okOr [] (Except.ok form : Except Int (List UInt8)) = form from rfl]
  obtain ⟨hp1, -, -, hl1⟩ := xread_back HX1.out.symm
  obtain ⟨hp2, -, -, hl2⟩ := xread_back HX2.out.symm
  have hL := lock_read HX1.out.symm HX2.out.symm
  have HLk := Lib.hid (alock_any s w11 (by omega) (fun n hn => by rw [hp1] at hn; injection hn with hn; subst hn; exact ⟨HT.out.1, HT.out.2.2⟩) (HE.out.below HBw11.out))
  rw [hL] at HLk
  have HPf := Lib.hid (fun w' (hb : Below w11.heap.size w11 w') => (show Calls Tryz.prog 19 #[.string ⟨form.toArray⟩] w' (ParseV (.ok (davN wOwner (ownN o).kids)) w') from by
    have h := xparseV form w' (by omega) ((HE.out.below HBw11.out).below hb)
    rw [hp2, own_dav] at h
    exact h))
  obtain ⟨K, hK⟩ : ∃ K, K = (ownN o).kids := ⟨_, rfl⟩
  rw [← hK] at HNo11 HPf
  obtain rfl : m = K.length := (kid_at HNo11.out).1
  clear hp1 hp2 hl1 hL HX1 HX2 HT hK
  by_cases h5 : 512 < form.length
  · rw [if_pos h5] at HLk
    have HLk2 := Lib.hid (show Calls Tryz.prog 26 #[.string ⟨s.toArray⟩] w11 (fun e w' => Below w11.heap.size w11 w' ∧ e = .returned (.tuple #[.agg #[.bool false, .string ⟨#[]⟩], .int .i64 5])) from HLk.out)
    have i5 : (512 : Int) < form.length := by omega
    have hsm : ∀ w : World, (binOp .eql 55 (.agg #[.bool false, .string ⟨#[]⟩]) (.agg #[.bool false, .string ⟨#[]⟩])).run Tryz.prog w = .ok (.bool true) w := fun w => by have := ask_eql false false [] [] w; simpa using this
    clear HLk HPf h5
    go_wp2_with fail
    refine HLk2.out.mono ?_
    rintro e w12 ⟨hb12, rfl⟩
    have HB13 := Lib.hid ((HBw11.out.trans (hb12.mono HBw11.out.size)).alloc ((HBw11.out.trans (hb12.mono HBw11.out.size)).size) (.cells #[.bool false, .string ⟨#[]⟩] 55 (0, 0)))
    clear hb12 HLk2
    go_wp2
    rw [HEE.out]
    exact ⟨rfl, HB13.out⟩
  rw [if_neg h5] at HLk
  have HLk2 := Lib.hid (show Calls Tryz.prog 26 #[.string ⟨s.toArray⟩] w11 (fun e w' => Below w11.heap.size w11 w' ∧ e = .returned (.tuple #[.agg #[.bool b, .string ⟨form.toArray⟩], .int .i64 0])) from HLk.out)
  have i5 : ¬ (512 : Int) < form.length := by omega
  clear HLk h5
  go_wp2_with fail
  refine HLk2.out.mono ?_
  rintro e w12 ⟨hb12, rfl⟩
  have hb13 := (Below.refl w12.heap.size w12).alloc (Nat.le_refl _) (.cells #[.bool b, .string ⟨form.toArray⟩] 55 (0, 0))
  have HA13 := Lib.hid (heap_alloc_new w12 (.cells #[.bool b, .string ⟨form.toArray⟩] 55 (0, 0)))
  have HB13 := Lib.hid (hb12.trans (hb13.mono hb12.size))
  clear hb12 hb13 HLk2
  go_wp2_with fail
  generalize w12.alloc (.cells #[.bool b, .string ⟨form.toArray⟩] 55 (0, 0)) = w13 at *
  obtain ⟨qa, hqa⟩ : ∃ q, q = w12.heap.size := ⟨_, rfl⟩
  rw [← hqa] at HA13 ⊢
  clear hqa
  refine (HPf.out w13 HB13.out).mono ?_
  rintro e w14 ⟨hb14, aA, ac, kA9, kc9, rfl, ht14⟩
  rw [show outE (.ok (davN wOwner K)) = 0 from rfl]
  rw [show treeCs (outN (.ok (davN wOwner K))) aA ac kA9 kc9 = #[.string ⟨#[]⟩, .string ⟨#[68, 65, 86, 58]⟩, .string ⟨#[111, 119, 110, 101, 114]⟩, .slice aA 0 ac, .slice kA9 K.length kc9] from rfl]
  have hb15 := (Below.refl w14.heap.size w14).alloc (Nat.le_refl _) (.cells #[.string ⟨#[]⟩, .string ⟨#[68, 65, 86, 58]⟩, .string ⟨#[111, 119, 110, 101, 114]⟩, .slice aA 0 ac, .slice kA9 K.length kc9] 26 (0, 0))
  have HM15 := Lib.hid (heap_alloc_new w14 (.cells #[.string ⟨#[]⟩, .string ⟨#[68, 65, 86, 58]⟩, .string ⟨#[111, 119, 110, 101, 114]⟩, .slice aA 0 ac, .slice kA9 K.length kc9] 26 (0, 0)))
  have hb135 := hb14.trans (hb15.mono hb14.size)
  have HB15 := Lib.hid (HB13.out.trans (hb135.mono HB13.out.size))
  have HA15 := Lib.hid ((hb135.block _ (xlt HA13.out)).trans HA13.out)
  have HP15 := Lib.hid ((HB15.out.block _ (xlt HP11.out)).trans HP11.out)
  have HS15 := Lib.hid (show Calls Tryz.prog 20 #[.agg #[.string ⟨#[]⟩, .string ⟨#[68, 65, 86, 58]⟩, .string ⟨#[111, 119, 110, 101, 114]⟩, .slice aA 0 ac, .slice kA9 K.length kc9], .agg #[.string ⟨#[]⟩, .string ⟨#[68, 65, 86, 58]⟩, .string ⟨#[111, 119, 110, 101, 114]⟩, .slice none 0 0, .slice kA K.length kc]] _ (Ret (.bool true) _) from
    xsame_any (n := davN wOwner K) (cs := [.string ⟨#[]⟩, .string ⟨#[68, 65, 86, 58]⟩, .string ⟨#[111, 119, 110, 101, 114]⟩, .slice aA 0 ac, .slice kA9 K.length kc9]) (ht14.below hb15).node [.string ⟨#[]⟩, .string ⟨#[68, 65, 86, 58]⟩, .string ⟨#[111, 119, 110, 101, 114]⟩, .slice none 0 0, .slice kA K.length kc]
      (NodeP.of (t := []) (s := wDav) (n := wOwner) (ats := []) (TabP.nil _ _ _ _) (HNo11.out.move (Moves.below HB15.out fun _ _ _ => trivial))) _ (Below.refl _ _))
  have HBe := Lib.hid (HBw11.out.trans (HB15.out.mono HBw11.out.size))
  clear hb14 hb15 hb135 ht14 HPf HB13 HA13 HP11 HB15 HNo11 HB11 HBw11
  go_upto_region 20 with (fail)
  generalize w14.alloc (.cells #[.string ⟨#[]⟩, .string ⟨#[68, 65, 86, 58]⟩, .string ⟨#[111, 119, 110, 101, 114]⟩, .slice aA 0 ac, .slice kA9 K.length kc9] 26 (0, 0)) = w15 at *
  obtain ⟨qm, hqm⟩ : ∃ q, q = w14.heap.size := ⟨_, rfl⟩
  rw [← hqm] at HM15 ⊢
  clear hqm
  have a0 := xat HA15.out 0
  have a1 := xat HA15.out 1
  have m0 := xat HM15.out 0
  have m1 := xat HM15.out 1
  have m2 := xat HM15.out 2
  have m3 := xat HM15.out 3
  have m4 := xat HM15.out 4
  have p0 := xat HP15.out 0
  have p1 := xat HP15.out 1
  have p2 := xat HP15.out 2
  have p3 := xat HP15.out 3
  have p4 := xat HP15.out 4
  simp only [List.getElem?_toArray, List.getElem?_cons_zero, List.getElem?_cons_succ] at a0 a1 m0 m1 m2 m3 m4 p0 p1 p2 p3 p4
  clear HA15 HM15 HP15
  go_wp2_with (go_at_call 20; refine HS15.out.mono ?_; rintro e w16 ⟨rfl, hb16⟩)
  rw [HEE.out]
  exact ⟨rfl, HBe.out.trans (hb16.mono HBe.out.size)⟩
end Go.Proofs.YtdnjiemclhbccaaGreatDoor

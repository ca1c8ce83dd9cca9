import Derived.Test.YtjkiehmjffgnlaaGreatDoorXmlZ6
import Derived.Tactics
import Derived.Tactics2
import Derived.Defers
import Derived.Laws.Pointers
import Derived.Laws.LoneSync
import Derived.RegionTactic
import Derived.RegionCalls
import Derived.ChangeAlike
import Derived.Test.YtjkiehmjffgnlaaGreatDoorXmlZ2
namespace Go.Proofs.YtjkiehmjffgnlaaGreatDoor
set_option linter.unusedVariables false
set_option linter.unusedSimpArgs false
open Go.RowKit

theorem crlf_len : ∀ s : List UInt8, (crlfX s).length ≤ s.length
  | [] => Nat.le_refl _
  | [c] => Nat.le_refl _
  | c :: d :: r => by
    unfold crlfX
    split
    · have := crlf_len r; simp; omega
    · have := crlf_len (d :: r); simp at this ⊢; omega
theorem lines_len (s : List UInt8) : (linesX s).length ≤ s.length := by
  rw [lines_two]
  unfold crX
  rw [List.length_map]
  exact crlf_len s
theorem xrepl_any (s old : List UInt8) (w : World) (hs : s.length ≤ 1000000000) (ho : 1 ≤ old.length) (hE : XEnv w) :
    Calls Tryz.prog 134 #[.string ⟨s.toArray⟩, .string ⟨old.toArray⟩, .string ⟨#[10]⟩] w (Ret (.string ⟨(Lib.replaceAll s old [10]).toArray⟩) w) := by
  obtain ⟨m, hm⟩ := hE.env.maxLen
  have hc := Lib.countB_le ⟨old.toArray⟩ ho s.length ⟨s.toArray⟩ (Nat.le_refl _)
  have hc2 : Lib.countB ⟨s.toArray⟩ ⟨old.toArray⟩ ≤ s.length := hc
  refine (Tryz.strings_ReplaceAll ⟨s.toArray⟩ ⟨old.toArray⟩ ⟨#[10]⟩ m w (by show s.length < _; omega) hm ho (by show s.length + _ * 1 ≤ _; omega)).mono ?_
  rintro e w' ⟨rfl, hb⟩
  exact ⟨rfl, hb⟩
set_option maxHeartbeats 400000 in
set_option maxRecDepth 100000 in
set_option linter.unusedSimpArgs false in
theorem xlines_any (s : List UInt8) (w : World) (hs : s.length ≤ 1000000000) (hE : XEnv w) : Calls Tryz.prog 113 #[.string ⟨s.toArray⟩] w (Ret (.string ⟨(linesX s).toArray⟩) w) := by
  have H1 := Lib.hid (xrepl_any s [13, 10] w hs (by decide) hE)
  rw [replaceAll_crlf] at H1
  have hl := crlf_len s
  have H2 := Lib.hid (fun w1 hb => xrepl_any (crlfX s) [13] w1 (by omega) (by decide) (hE.below hb))
  simp only [replaceAll_cr] at H2
  rw [← lines_two] at H2
  generalize linesX s = ls at *
  generalize crlfX s = cs at *
  clear hE
  go_enter Tryz.func113, Tryz.ntmps113
  go_wp2_with fail
  refine H1.out.mono ?_
  rintro e w1 ⟨rfl, hb1⟩
  have HB1 := Lib.hid hb1
  clear hb1
  go_wp2_with fail
  refine (H2.out w1 HB1.out).mono ?_
  rintro e w2 ⟨rfl, hb2⟩
  have HB2 := Lib.hid (HB1.out.trans (hb2.mono HB1.out.size))
  clear hb2
  go_wp2
  go_ret
  exact ⟨rfl, HB2.out⟩

theorem elemN : ElemN Tryz.prog 22 46 5 (.agg #[.string ⟨#[]⟩, .string ⟨#[]⟩, .string ⟨#[]⟩, .slice none 0 0, .slice none 0 0]) 96 := ⟨Tryz.underlying22, by kernel_rfl, rfl, by omega, by omega⟩
/-- blocks of the trees that hang in v: of the call's own, and not v's own. -/
def besideK (B : Nat) (v : Value) : Nat → Prop := fun k => B ≤ k ∧ some k ≠ v.ownBlock
structure KidR (B : Nat) (w : World) (v : Value) (ks : List NodeT) (rows : List (List Value)) : Prop where
  own : OwnT 46 5 B rows v w
  len : rows.length = ks.length
  node : ∀ (j : Nat) (r : List Value) (x : NodeT), rows[j]? = some r → ks[j]? = some x → NodeP (besideK B v) w r x
def Kids (B : Nat) (w : World) (v : Value) (ks : List NodeT) : Prop := ∃ rows, KidR B w v ks rows
theorem Kids.nil (B : Nat) (w : World) : Kids B w (.slice none 0 0) [] := ⟨[], OwnT.nil _ _ _ _, rfl, fun j r x h => by simp at h⟩
theorem Kids.step {B b : Nat} {w w' : World} {v : Value} {ks : List NodeT} (h : Kids B w v ks) (hg : w.grownBy w' (some b)) (hb : b < B) : Kids B w' v ks := by
  obtain ⟨rows, h1, h2, h3⟩ := h
  refine ⟨rows, h1.grown hg (fun k hk e => ?_), h2, fun j r x hr hx => (h3 j r x hr hx).move (Moves.grown hg fun k hk _ => ⟨hk, fun e => by injection e with e; have := hk.1; omega⟩)⟩
  injection e with e
  have := (h1.lt k hk).1
  omega
theorem Kids.under {B : Nat} {w w' : World} {v : Value} {ks : List NodeT} (h : Kids B w v ks) (hb : Below w.heap.size w w') : Kids B w' v ks := by
  obtain ⟨rows, h1, h2, h3⟩ := h
  exact ⟨rows, h1.below hb, h2, fun j r x hr hx => (h3 j r x hr hx).move (Moves.below hb fun k hk _ => hk)⟩
theorem Kids.nodes {B : Nat} {w : World} {v : Value} {ks : List NodeT} (h : Kids B w v ks) : NodesP (B ≤ ·) w v ks := by
  obtain ⟨rows, h1, h2, h3⟩ := h
  refine ⟨h1.tab h2 fun j x r hx hr => (h3 j r x hr hx).move (Moves.same w fun k hk _ => hk.1), fun _ k hk => (h1.lt k hk).1⟩
theorem KidR.app {B B1 : Nat} {w w' : World} {v v' : Value} {ks : List NodeT} {rows : List (List Value)} {arr : List Value} {x : NodeT} (h : KidR B w v ks rows) (hx : NodeP (B1 ≤ ·) w arr x) (h1 : B ≤ B1) (h2 : ∀ k, v.ownBlock = some k → k < B1)
    (ho : OwnT 46 5 B (rows ++ [arr]) v' w') (hg : w.grownBy w' v.ownBlock) (hn : v'.ownBlock = v.ownBlock ∨ ∃ k, v'.ownBlock = some k ∧ w.heap.size ≤ k) : Kids B w' v' (ks ++ [x]) := by
  have key : ∀ k, some k ≠ v.ownBlock → k < w.heap.size → some k ≠ v'.ownBlock ∧ w'.heap[k]? = w.heap[k]? := fun k hk hlt => by
    refine ⟨?_, hg.block k hlt hk⟩
    rcases hn with hn | ⟨j, hj, hjk⟩
    · rw [hn]; exact hk
    · rw [hj]; intro e; injection e with e; omega
  refine ⟨rows ++ [arr], ho, by simp [h.len], fun j r y hr hy => ?_⟩
  rcases Nat.lt_or_ge j rows.length with hj | hj
  · rw [List.getElem?_append_left hj] at hr
    rw [List.getElem?_append_left (by rw [← h.len]; exact hj)] at hy
    exact (h.node j r y hr hy).move ⟨hg.size, fun k hk hlt => ⟨⟨hk.1, (key k hk.2 hlt).1⟩, (key k hk.2 hlt).2⟩⟩
  · rw [List.getElem?_append_right hj] at hr
    rw [List.getElem?_append_right (by rw [← h.len]; exact hj), ← h.len] at hy
    have hj0 : j - rows.length = 0 := by have := (List.getElem?_eq_some_iff.1 hr).1; simp at this; omega
    rw [hj0] at hr hy
    injection hr with hr
    injection hy with hy
    subst hr hy
    refine hx.move ⟨hg.size, fun k hk hlt => ?_⟩
    have hne : some k ≠ v.ownBlock := fun e => by have := h2 k e.symm; omega
    exact ⟨⟨by omega, (key k hne hlt).1⟩, (key k hne hlt).2⟩
structure LastK (B : Nat) (w : World) (v : Value) (n : Nat) (x : NodeT) (g cap : Nat) : Prop where
  form : v = .slice (some ⟨g, 0, none⟩) (n + 1) cap
  lt : B ≤ g ∧ g < w.heap.size
  room : n + 1 ≤ cap ∧ cap ≤ maxLen
  text : w.cell? ⟨g, n * 5, none⟩ = some (.string ⟨x.text.toArray⟩)
  name : w.cell? ⟨g, n * 5 + 2, none⟩ = some (.string ⟨x.name.toArray⟩)
  free : ∀ k, w.frozen? ⟨g, k, none⟩ = false
theorem KidR.last {B : Nat} {w : World} {v : Value} {ks0 : List NodeT} {x : NodeT} {rows : List (List Value)} (h : KidR B w v (ks0 ++ [x]) rows) : ∃ rows0 av kv g cap, rows = rows0 ++ [[.string ⟨x.text.toArray⟩, .string ⟨x.space.toArray⟩, .string ⟨x.name.toArray⟩, av, kv]] ∧ rows0.length = ks0.length ∧ LastK B w v ks0.length x g cap := by
  have hl : rows.length = ks0.length + 1 := by rw [h.len]; simp
  have hlt : ks0.length < rows.length := by omega
  have hr := List.getElem?_eq_getElem hlt
  obtain ⟨av, kv, hcs, -, -⟩ := (h.node ks0.length _ x hr (by simp)).parts
  have hsplit : rows = rows.take ks0.length ++ [rows[ks0.length]] := by
    rw [← List.take_succ_eq_append_getElem hlt, List.take_of_length_le (by omega)]
  have hown := h.own
  have hb := hown.lt
  rcases hown.1.2 with ⟨-, h0⟩ | ⟨g, cap, cur, hv, hgB, hheap, hnc, hcm, hcs2, htake⟩
  · omega
  have hfl : rows.flatten.length = rows.length * 5 := flatten_len hown.2
  have hcell : ∀ k u, k < 5 → rows[ks0.length][k]? = some u → w.cell? ⟨g, ks0.length * 5 + k, none⟩ = some u := fun k u hk hu => by
    rw [xat hheap, ← hu, ← flatten_at hown.2 ks0.length _ hr k hk, ← htake, List.getElem?_take, if_pos (by omega), Array.getElem?_toList]
  refine ⟨rows.take ks0.length, av, kv, g, cap, by rw [← hcs]; exact hsplit, by rw [List.length_take]; omega, by rw [hv, hl], ⟨hgB, (hb g (by rw [hv]; rfl)).2⟩, by omega, ?_, ?_, fun k => xfree hheap k⟩
  · exact hcell 0 _ (by omega) (by rw [hcs]; rfl)
  · exact hcell 2 _ (by omega) (by rw [hcs]; rfl)
theorem KidR.text {B : Nat} {w : World} {v : Value} {ks0 : List NodeT} {x : NodeT} {rows : List (List Value)} (h : KidR B w v (ks0 ++ [x]) rows) {g cap : Nat} (hL : LastK B w v ks0.length x g cap) (t : List UInt8) :
    Kids B (w.setCell ⟨g, ks0.length * 5, none⟩ (.string ⟨t.toArray⟩)) v (ks0 ++ [.mk t x.space x.name x.attrs x.kids]) ∧ w.grownBy (w.setCell ⟨g, ks0.length * 5, none⟩ (.string ⟨t.toArray⟩)) v.ownBlock := by
  obtain ⟨rows0, av, kv, g', cap', hrows, hl0, -⟩ := h.last
  have hv := hL.form
  have hl : rows.length = ks0.length + 1 := by rw [h.len]; simp
  have hown := h.own
  have hown1 := hown.1
  rw [hv, hl] at hown1
  obtain ⟨h1, h2⟩ := hown1.stored (ks0.length * 5) (.string ⟨t.toArray⟩)
  have hr0 : ∀ r ∈ rows0, r.length = 5 := fun r hr => hown.2 r (by rw [hrows]; exact List.mem_append_left _ hr)
  have hfl0 : rows0.flatten.length = ks0.length * 5 := by rw [flatten_len hr0, hl0]
  have hset : rows.flatten.set (ks0.length * 5) (.string ⟨t.toArray⟩) = (rows0 ++ [[.string ⟨t.toArray⟩, .string ⟨x.space.toArray⟩, .string ⟨x.name.toArray⟩, av, kv]]).flatten := by
    rw [hrows, List.flatten_append, List.flatten_append, List.set_append_right _ _ (by omega), hfl0, Nat.sub_self]
    rfl
  have hgv : v.ownBlock = some g := by rw [hv]; rfl
  have hG : w.grownBy (w.setCell ⟨g, ks0.length * 5, none⟩ (.string ⟨t.toArray⟩)) v.ownBlock := by rw [hgv]; exact h2
  refine ⟨⟨rows0 ++ [[.string ⟨t.toArray⟩, .string ⟨x.space.toArray⟩, .string ⟨x.name.toArray⟩, av, kv]], ⟨?_, ?_⟩, by simp [hl0], fun j r y hr hy => ?_⟩, hG⟩
  · rw [← hset, hv, show (rows0 ++ [[Value.string ⟨t.toArray⟩, .string ⟨x.space.toArray⟩, .string ⟨x.name.toArray⟩, av, kv]]).length = ks0.length + 1 by simp [hl0]]
    exact h1
  · intro r hr
    rcases List.mem_append.1 hr with hr | hr
    · exact hr0 r hr
    · rw [List.mem_singleton.1 hr]; rfl
  · have hmv : Moves (besideK B v) (besideK B v) w (w.setCell ⟨g, ks0.length * 5, none⟩ (.string ⟨t.toArray⟩)) := Moves.grown hG fun k hk _ => ⟨hk, hk.2⟩
    rcases Nat.lt_or_ge j ks0.length with hj | hj
    · rw [List.getElem?_append_left (by omega)] at hr hy
      exact (h.node j r y (by rw [hrows, List.getElem?_append_left (by omega)]; exact hr) (by rw [List.getElem?_append_left hj]; exact hy)).move hmv
    · rw [List.getElem?_append_right (by omega)] at hr hy
      have hj0 : j = ks0.length := by have := (List.getElem?_eq_some_iff.1 hy).1; simp at this; omega
      subst hj0
      rw [hl0, Nat.sub_self] at hr
      rw [Nat.sub_self] at hy
      injection hr with hr
      injection hy with hy
      subst hr hy
      have hold := h.node ks0.length _ x (by rw [hrows, List.getElem?_append_right (by omega), hl0, Nat.sub_self]; rfl) (by simp)
      obtain ⟨av2, kv2, hcs, ha, hk⟩ := (hold.move hmv).parts
      injection hcs with _ hcs
      injection hcs with _ hcs
      injection hcs with _ hcs
      injection hcs with e1 hcs
      injection hcs with e2 _
      subst e1 e2
      exact NodeP.of ha hk
end Go.Proofs.YtjkiehmjffgnlaaGreatDoor
namespace Go.Proofs.YtjkiehmjffgnlaaGreatDoor
set_option linter.unusedVariables false
set_option linter.unusedSimpArgs false
open Go.RowKit

theorem addText_nil (t : List UInt8) (h : ¬ t = []) : addText [] t = [textN t] := by
  unfold addText
  rw [if_neg h]
  rfl
theorem addText_last (ks : List NodeT) (x : NodeT) (t : List UInt8) (h : ¬ t = []) : addText (ks ++ [x]) t = if x.name = [] then ks ++ [.mk (x.text ++ t) x.space x.name x.attrs x.kids] else (ks ++ [x]) ++ [textN t] := by
  unfold addText
  rw [if_neg h, List.getLast?_append]
  obtain ⟨a, b, c, d, e⟩ := x
  rcases c with _ | ⟨y, c⟩
  · show (ks ++ [NodeT.mk a b [] d e]).dropLast ++ _ = _
    rw [List.dropLast_concat]
    rfl
  · rfl
theorem ownT_form {e : TypeId} {n B : Nat} {rows : List (List Value)} {v : Value} {w : World} (h : OwnT e n B rows v w) : ∃ A cap, v = .slice A rows.length cap := by
  rcases h.1.2 with ⟨hv, h0⟩ | ⟨g, cap, cur, hv, hb, hg, hn, hm, hs, ht⟩
  · exact ⟨none, 0, by rw [hv, h0]⟩
  · exact ⟨_, cap, hv⟩
def TextP (B : Nat) (v : Value) (ks : List NodeT) (w : World) (e : Ending) (w' : World) : Prop := ∃ v', e = .returned v' ∧ Kids B w' v' ks ∧ w.grownBy w' v.ownBlock
theorem textCells (t : List UInt8) : ∀ u ∈ ([.string ⟨t.toArray⟩, .string ⟨#[]⟩, .string ⟨#[]⟩, .slice none 0 0, .slice none 0 0] : List Value), u.oneCell' = true := by
  intro u hu
  simp only [List.mem_cons, List.not_mem_nil, or_false] at hu
  rcases hu with rfl | rfl | rfl | rfl | rfl <;> rfl
set_option maxHeartbeats 4000000 in
set_option maxRecDepth 100000 in
set_option linter.unusedSimpArgs false in
theorem xtext_any (B : Nat) (v : Value) (ks : List NodeT) (t : List UInt8) (w : World) (h : Kids B w v ks) (hB : B ≤ w.heap.size) (hk : ks.length ≤ 1000000) (hx : ∀ x ∈ ks, x.text.length ≤ 1000000000) (hlt : t.length ≤ 1000000000) : Calls Tryz.prog 112 #[v, .string ⟨t.toArray⟩] w (TextP B v (addText ks t) w) := by
  obtain ⟨E, hEE⟩ : ∃ E, E = TextP B v (addText ks t) w := ⟨_, rfl⟩
  rw [← hEE]
  have HEE := Lib.hid hEE
  clear hEE
  obtain ⟨rows, hR⟩ := h
  by_cases ht : t = []
  · subst ht
    have HR := Lib.hid hR
    clear hR
    go_enter Tryz.func112, Tryz.ntmps112
    go_wp2
    rw [HEE.out]
    exact ⟨_, rfl, ⟨rows, HR.out⟩, World.grownBy.refl _ _⟩
  have hte : t.isEmpty = false := by cases t with | nil => exact absurd rfl ht | cons => rfl
  have HR := Lib.hid hR
  have HBD := Lib.hid (show (rows.length + 1) * 96 ≤ 140737488355328 by have := hR.len; omega)
  have HT := Lib.hid ht
  clear ht
  rcases List.eq_nil_or_concat ks with hks | ⟨ks0, x, hks⟩
  · subst hks
    rw [addText_nil t HT.out] at HEE
    obtain ⟨A, cap, hv⟩ := ownT_form hR.own
    rw [hR.len] at hv
    have hv2 : v = .slice A 0 cap := hv
    clear hv hR
    subst hv2
    go_enter Tryz.func112, Tryz.ntmps112
    go_wp2_with (at_builtin; go_must (refine wpList_appRec elemN rfl (.tmp 32) (.tmp 35) rfl B rows #[.string ⟨t.toArray⟩, .string ⟨#[]⟩, .string ⟨#[]⟩, .slice none 0 0, .slice none 0 0] _ rfl HR.out.own w.heap.size rfl rfl rfl (textCells t) HBD.out hB ?_); intro v' w' hown' hb' hg' hn')
    rw [HEE.out]
    exact ⟨_, rfl, HR.out.app (NodeP.text _ _ t) hB (fun k hk => (HR.out.own.lt k hk).2) hown' hg' hn', hg'⟩
  · rw [List.concat_eq_append] at hks
    subst hks
    rw [addText_last ks0 x t HT.out] at HEE
    obtain ⟨rows0, av, kv, g, cap, -, -, hL⟩ := hR.last
    have HL := Lib.hid hL
    have HTX := Lib.hid (fun t => hR.text hL t)
    have hv := hL.form
    have c0 := hL.text
    have c2 := hL.name
    have f0 := hL.free
    have hcap := hL.room
    have hk0 : ks0.length ≤ 1000000 := by rw [List.length_append] at hk; omega
    have hxl : x.text.length + t.length ≤ 2000000000 := by have := hx x (by simp); omega
    clear hR hL hk hx
    subst hv
    by_cases hn : x.name = []
    · rw [if_pos hn] at HEE
      have hne : x.name.isEmpty = true := by rw [hn]; rfl
      clear hn
      go_enter Tryz.func112, Tryz.ntmps112
      go_wp2
      rw [HEE.out]
      exact ⟨_, rfl, (HTX.out (x.text ++ t)).1, (HTX.out (x.text ++ t)).2⟩
    · rw [if_neg hn] at HEE
      have hne : x.name.isEmpty = false := by cases hx : x.name with | nil => exact absurd hx hn | cons => rfl
      clear hn
      go_enter Tryz.func112, Tryz.ntmps112
      go_wp2_with (at_builtin; go_must (refine wpList_appRec elemN rfl (.tmp 32) (.tmp 35) rfl B rows #[.string ⟨t.toArray⟩, .string ⟨#[]⟩, .string ⟨#[]⟩, .slice none 0 0, .slice none 0 0] _ rfl HR.out.own w.heap.size rfl rfl rfl (textCells t) HBD.out hB ?_); intro v' w' hown' hb' hg' hn')
      rw [HEE.out]
      exact ⟨_, rfl, HR.out.app (NodeP.text _ _ t) hB (fun k hk => (HR.out.own.lt k hk).2) hown' hg' hn', hg'⟩
end Go.Proofs.YtjkiehmjffgnlaaGreatDoor
namespace Go.Proofs.YtjkiehmjffgnlaaGreatDoor
set_option linter.unusedVariables false
set_option linter.unusedSimpArgs false
open Go.RowKit

theorem sy_disable (w : World) : (callFunc 181 #[]).run Tryz.prog w = .ok (.value (.tuple #[])) w := run_call_mark0 Tryz.func181 (by kernel_rfl) (by kernel_rfl) (by kernel_rfl) .disable (by kernel_rfl) w
theorem sy_enable (w : World) : (callFunc 183 #[]).run Tryz.prog w = .ok (.value (.tuple #[])) w := run_call_mark0 Tryz.func183 (by kernel_rfl) (by kernel_rfl) (by kernel_rfl) .enable (by kernel_rfl) w
theorem sy_acquire (a : Addr) (w : World) : (callFunc 184 #[.pointer (some a)]).run Tryz.prog w = .ok (.value (.tuple #[])) w := run_call_marked Tryz.func184 (by kernel_rfl) (by kernel_rfl) (by kernel_rfl) .acquire (by kernel_rfl) a w
theorem sy_merge (a : Addr) (w : World) : (callFunc 186 #[.pointer (some a)]).run Tryz.prog w = .ok (.value (.tuple #[])) w := run_call_marked Tryz.func186 (by kernel_rfl) (by kernel_rfl) (by kernel_rfl) .releaseMerge (by kernel_rfl) a w
theorem sy_stored (a : Addr) (x : Value) (u : FrameMode) (w : World) (hc : w.cell? a = some x) (hz : w.frozen? a = false) :
    CallsD Tryz.prog 158 #[.pointer (some a), .bool true] u w fun e u' w' => u' = u ∧ (e = .returned (.tuple #[]) ∧ w' = w.drew.setCell a (.int .u32 1)) := by
  have hc' : w.drew.cell? a = some x := by go_simp
  have hz' : w.drew.frozen? a = false := by go_simp
  have hst := run_call_store (P := Tryz.prog) Tryz.func172 (by kernel_rfl) (by kernel_rfl) (by kernel_rfl) (by kernel_rfl) (k := .u32) (y := 1) hc' hz'
  go_enter_d Tryz.func158, Tryz.ntmps158
  go_wp2
  go_region_calls
  all_goals (go_end0; exact ⟨rfl, rfl⟩)
set_option maxHeartbeats 400000 in
set_option maxRecDepth 100000 in
set_option linter.unusedSimpArgs false in
theorem sy_iunlock (a : Addr) (w : World) (hc : w.cell? a = some (.int .i32 1)) (hz : w.frozen? a = false) :
    Calls Tryz.prog 171 #[.pointer (some a)] w fun e w' => e = .returned (.tuple #[]) ∧ w' = w.setCell a (.int .i32 0) := by
  have hd := sy_disable
  have he := sy_enable
  have hr := sy_merge
  have hadd := run_call_add (P := Tryz.prog) Tryz.func187 (by kernel_rfl) (by kernel_rfl) (by kernel_rfl) .i32 (by kernel_rfl) (y := -1) (s := 0) hc hz (by simp [go_sem]; rfl)
  have hcv := run_convert_to_unsafe (P := Tryz.prog) (src := 264) (dst := 187) Tryz.underlying264 Tryz.underlying187 (by kernel_rfl) hc
  go_enter Tryz.func171, Tryz.ntmps171
  go_wp2
  go_end0
  go_wp2
theorem sy_unlocked (a : Addr) (u : FrameMode) (w : World) (hc : w.cell? a = some (.int .i32 1)) (hz : w.frozen? a = false) :
    CallsD Tryz.prog 157 #[.pointer (some a)] u w fun e u' w' => u' = u ∧ (e = .returned (.tuple #[]) ∧ w' = w.setCell a (.int .i32 0)) := by
  have HU := Lib.hid (sy_iunlock a w hc hz)
  go_enter_d Tryz.func157, Tryz.ntmps157
  go_wp2_with (refine HU.out.mono ?_; rintro e w1 ⟨rfl, rfl⟩)
  go_end0
  exact ⟨rfl, rfl⟩
set_option maxHeartbeats 400000 in
set_option maxRecDepth 100000 in
set_option linter.unusedSimpArgs false in
theorem sy_ilock (a : Addr) (w : World) (hc : w.cell? a = some (.int .i32 0)) (hz : w.frozen? a = false) :
    Calls Tryz.prog 170 #[.pointer (some a)] w fun e w' => e = .returned (.tuple #[]) ∧ w' = w.setCell a (.int .i32 1) := by
  have hd := sy_disable
  have he := sy_enable
  have ha := sy_acquire
  have hcas := run_call_cas_hit (P := Tryz.prog) Tryz.func182 (by kernel_rfl) (by kernel_rfl) (by kernel_rfl) .i32 (by kernel_rfl) (y := 1) hc hz
  have hc' : (w.setCell a (.int .i32 1)).cell? a = some (.int .i32 1) := World.cell?_setCell_same w a _ hc
  have hcv := run_convert_to_unsafe (P := Tryz.prog) (src := 264) (dst := 187) Tryz.underlying264 Tryz.underlying187 (by kernel_rfl) hc'
  go_enter Tryz.func170, Tryz.ntmps170
  go_wp2
  first | go_end0 | (simp only [Exit.inBlock, Exit.then]; refine bodyPost_ret (results_none rfl _ _ _) rfl ?_) | refine bodyPost_ret (results_none rfl _ _ _) rfl ?_
  go_wp2
theorem sy_lock (a : Addr) (w : World) (hc : w.cell? a = some (.int .i32 0)) (hz : w.frozen? a = false) :
    Calls Tryz.prog 156 #[.pointer (some a)] w fun e w' => e = .returned (.tuple #[]) ∧ w' = w.setCell a (.int .i32 1) := by
  have HU := Lib.hid (sy_ilock a w hc hz)
  go_enter Tryz.func156, Tryz.ntmps156
  go_wp2_with (refine HU.out.mono ?_; rintro e w1 ⟨rfl, rfl⟩)
  go_end0
  exact ⟨rfl, rfl⟩
end Go.Proofs.YtjkiehmjffgnlaaGreatDoor
namespace Go.Proofs.YtjkiehmjffgnlaaGreatDoor
set_option linter.unusedVariables false
set_option linter.unusedSimpArgs false
open Go.RowKit

def OnceF (b : Nat) (F : World → Prop) (e : Ending) (w2 : World) : Prop := e = .returned (.tuple #[]) ∧ w2.cell? ⟨b, 0, none⟩ = some (.int .u32 0) ∧ w2.cell? ⟨b, 1, none⟩ = some (.int .i32 1) ∧ w2.frozen? ⟨b, 0, none⟩ = false ∧ w2.frozen? ⟨b, 1, none⟩ = false ∧ F w2
def OnceP (b : Nat) (F : World → Prop) (e : Ending) (w' : World) : Prop := e = .returned (.tuple #[]) ∧ ∃ w2, F w2 ∧ w' = (w2.drew.setCell ⟨b, 0, none⟩ (.int .u32 1)).setCell ⟨b, 1, none⟩ (.int .i32 0)
theorem sy_load (a : Addr) (x : Int) (w : World) (hc : w.cell? a = some (.int .u32 x)) : Calls Tryz.prog 140 #[.pointer (some a)] w (Same0 (.bool (x != 0)) w) := by
  have hl := run_call_load (P := Tryz.prog) Tryz.func155 (by kernel_rfl) (by kernel_rfl) (by kernel_rfl) .u32 (by kernel_rfl) hc
  go_enter Tryz.func140, Tryz.ntmps140
  go_wp2
  go_ret
  exact ⟨rfl, rfl⟩
set_option maxHeartbeats 1600000 in
set_option maxRecDepth 100000 in
set_option linter.unusedSimpArgs false in
theorem once_slow (b : Nat) (F : World → Prop) (w : World)
    (h0 : w.cell? ⟨b, 0, none⟩ = some (.int .u32 0)) (h1 : w.cell? ⟨b, 1, none⟩ = some (.int .i32 0)) (f0 : w.frozen? ⟨b, 0, none⟩ = false) (f1 : w.frozen? ⟨b, 1, none⟩ = false)
    (HF : Hid (Calls Tryz.prog 120 #[.pointer (some ⟨b, 0, none⟩)] (w.setCell ⟨b, 1, none⟩ (.int .i32 1)) (OnceF b F))) :
    Calls Tryz.prog 141 #[.pointer (some ⟨b, 0, none⟩), .func (.func 120) #[.pointer (some ⟨b, 0, none⟩)] #[]] w (OnceP b F) := by
  have HLo := Lib.hid (sy_load ⟨b, 0, none⟩ 0 (w.setCell ⟨b, 1, none⟩ (.int .i32 1)) ((World.cell?_setCell_other _ ⟨b, 1, none⟩ ⟨b, 0, none⟩ _ (by simp)).trans h0))
  have hnot : ∀ (x : Bool) (w : World), (Op.unary .not (.bool x)).run Tryz.prog w = .ok (.bool (!x)) w := fun _ _ => rfl
  have HL := Lib.hid (sy_lock ⟨b, 1, none⟩ w h1 f1)
  go_enter_defers Tryz.func141, Tryz.ntmps141
  go_wp2_with (go_at_call 156; refine HL.out.mono ?_; rintro e w' ⟨rfl, rfl⟩)
  go_wp2_with (go_at_call 140; refine HLo.out.mono ?_; rintro e w' ⟨rfl, rfl⟩)
  go_wp2_with (go_at_call 120; refine HF.out.mono ?_; rintro e w2 ⟨rfl, hc0, hc1, hf0, hf1, hF⟩)
  refine leaves_cons (f := 158) (args := #[.pointer (some ⟨b, 0, none⟩), .bool true]) (by simp) (by simp [go_sem]) ?_
  refine (sy_stored ⟨b, 0, none⟩ (.int .u32 0) .returning _ hc0 hf0).mono ?_
  rintro e u' w'' ⟨rfl, rfl, rfl⟩
  refine leaves_cons (f := 157) (args := #[.pointer (some ⟨b, 1, none⟩)]) (by simp [settle]) (by simp [go_sem]) ?_
  refine (sy_unlocked ⟨b, 1, none⟩ _ _ ?_ (by simp [hf1])).mono ?_
  · refine (World.cell?_setCell_other _ ⟨b, 0, none⟩ ⟨b, 1, none⟩ _ (by simp)).trans ?_
    rw [World.cell?_drew]
    exact hc1
  rintro e u' w'' ⟨rfl, rfl, rfl⟩
  simp [Leaves, settle, results, Tryz.results141]
  exact ⟨rfl, w2, hF, rfl⟩
set_option maxHeartbeats 1600000 in
set_option maxRecDepth 100000 in
set_option linter.unusedSimpArgs false in
theorem once_do (b : Nat) (F : World → Prop) (w : World)
    (h0 : w.cell? ⟨b, 0, none⟩ = some (.int .u32 0)) (h1 : w.cell? ⟨b, 1, none⟩ = some (.int .i32 0)) (f0 : w.frozen? ⟨b, 0, none⟩ = false) (f1 : w.frozen? ⟨b, 1, none⟩ = false)
    (HF : Hid (Calls Tryz.prog 120 #[.pointer (some ⟨b, 0, none⟩)] (w.setCell ⟨b, 1, none⟩ (.int .i32 1)) (OnceF b F))) :
    Calls Tryz.prog 119 #[.pointer (some ⟨b, 0, none⟩), .func (.func 120) #[.pointer (some ⟨b, 0, none⟩)] #[]] w (OnceP b F) := by
  have HLo := Lib.hid (sy_load ⟨b, 0, none⟩ 0 w h0)
  have HS := Lib.hid (once_slow b F w h0 h1 f0 f1 HF)
  have hnot : ∀ (x : Bool) (w : World), (Op.unary .not (.bool x)).run Tryz.prog w = .ok (.bool (!x)) w := fun _ _ => rfl
  clear HF
  go_enter Tryz.func119, Tryz.ntmps119
  go_wp2_with (go_at_call 140; refine HLo.out.mono ?_; rintro e w' ⟨rfl, rfl⟩)
  go_wp2_with (go_at_call 141; refine HS.out.mono ?_; rintro e w' ⟨rfl, w2, hF, rfl⟩)
  go_end0
  exact ⟨rfl, w2, hF, rfl⟩
end Go.Proofs.YtjkiehmjffgnlaaGreatDoor
namespace Go.Proofs.YtjkiehmjffgnlaaGreatDoor
set_option linter.unusedVariables false
set_option linter.unusedSimpArgs false
open Go.RowKit

def tabL (k : Nat) : List UInt8 := (List.range 256).map fun j => if j < k then UInt8.ofNat j else 0
theorem tabL_set (k : Nat) : (tabL k).set k (UInt8.ofNat k) = tabL (k + 1) := by
  apply List.ext_getElem?
  intro j
  unfold tabL
  rw [List.getElem?_set]
  by_cases hj : j < 256
  · by_cases h : k = j
    · subst h
      simp [hj]
    · simp [hj, h]
      have e : (j < k) = (j < k + 1) := propext (by omega)
      simp only [e]
  · by_cases h : k = j
    · subst h
      simp [hj]
    · simp [hj, h]
theorem st_same (P : Program) (w : World) (Z : Array Value) (t : TypeId) (h1 : ∀ v ∈ Z.toList, v.oneCell' = true) : (storeCells ⟨w.heap.size, 0, none⟩ Z.toList).run P (w.alloc (.cells Z t)) = .ok () (w.alloc (.cells Z t)) := by
  rw [run_storeCells_at P w.heap.size 0 t Z.toList 0 Z _ (heap_alloc_new w _) (by simp) h1]
  have e : (Z.toList.take (0 + 0) ++ Z.toList ++ Z.toList.drop (0 + 0 + Z.toList.length)).toArray = Z := by
    rw [List.drop_of_length_le (by omega)]
    simp
  rw [e, setRow_self _ _ Z t (0, 0) (heap_alloc_new w _)]
theorem BW.litT (w : World) (l : List UInt8) (t : TypeId) : BW (w.alloc (.cells (vbytes l).toArray t)) w.heap.size l := by
  refine ⟨by simp, fun j b hj => ⟨?_, ?_⟩⟩
  · rw [cell_new]
    unfold vbytes
    simp [hj]
  · have h := heap_alloc_new w (.cells (vbytes l).toArray t)
    unfold World.frozen?
    rw [h]
    simp
theorem tab_zero : Tryz.zeroCells228 = (vbytes (tabL 0)).toArray := by kernel_rfl
theorem vb_one (l : List UInt8) : ∀ v ∈ (vbytes l).toArray.toList, v.oneCell' = true := by
  intro v hv
  unfold vbytes at hv
  simp at hv
  obtain ⟨b, -, rfl⟩ := hv
  rfl
theorem tabL_len (k : Nat) : (tabL k).length = 256 := by unfold tabL; simp
theorem tabL_at (c : UInt8) : (tabL 256)[c.toNat]? = some c := by
  unfold tabL
  have := c.toNat_lt
  simp [this]
def tabV : Nat → List UInt8
  | 0 => tabL 256
  | 1 => (tabL 256).set 10 32
  | _ => ((tabL 256).set 10 32).set 9 32
theorem tabV_end : tabV 2 = (tabL 256).map flatC := by decide +kernel
theorem tabV_10 : (tabV 0)[10]? = some 10 := by decide +kernel
theorem tabV_9 : (tabV 1)[9]? = some 9 := by decide +kernel
def BuildB (w : World) (e : Ending) (w' : World) : Prop := ∃ g, e = .returned (.iface 229 (.pointer (some ⟨g, 0, none⟩))) ∧ w.heap.size ≤ g ∧ Below w.heap.size w w' ∧ BW w' g ((tabL 256).map flatC)
set_option maxHeartbeats 8000000 in
set_option maxRecDepth 100000 in
set_option linter.unusedSimpArgs false in
theorem xbuild_bytes (b q cap : Nat) (w : World) (p0 p1 p2 p3 : List UInt8) (l0 : p0.length = 1) (l1 : p1.length = 1) (l2 : p2.length = 1) (l3 : p3.length = 1) (x0 : ∀ hk, (⟨p0.toArray⟩ : ByteArray)[0]'hk = 9) (x1 : ∀ hk, (⟨p1.toArray⟩ : ByteArray)[0]'hk = 32) (x2 : ∀ hk, (⟨p2.toArray⟩ : ByteArray)[0]'hk = 10) (x3 : ∀ hk, (⟨p3.toArray⟩ : ByteArray)[0]'hk = 32) (hs : w.cell? ⟨b, 4, none⟩ = some (.slice (some ⟨q, 0, none⟩) 4 cap)) (hcap : 4 ≤ cap ∧ cap ≤ maxLen)
    (c0 : w.cell? ⟨q, 0, none⟩ = some (.string ⟨p0.toArray⟩)) (c1 : w.cell? ⟨q, 1, none⟩ = some (.string ⟨p1.toArray⟩)) (c2 : w.cell? ⟨q, 2, none⟩ = some (.string ⟨p2.toArray⟩)) (c3 : w.cell? ⟨q, 3, none⟩ = some (.string ⟨p3.toArray⟩)) :
    Calls Tryz.prog 142 #[.pointer (some ⟨b, 0, none⟩)] w (BuildB w) := by
  obtain ⟨E, hEE⟩ : ∃ E, E = BuildB w := ⟨_, rfl⟩
  rw [← hEE]
  have HEE := Lib.hid hEE
  clear hEE
  have hst := st_same Tryz.prog w Tryz.zeroCells228 228 (by rw [tab_zero]; exact vb_one _)
  have hbw := Lib.hid (show BW (w.alloc (.cells Tryz.zeroCells228 228)) w.heap.size (tabL 0) by rw [tab_zero]; exact BW.litT _ _ _)
  have hbl := (Below.refl w.heap.size w).alloc (Nat.le_refl _) (.cells Tryz.zeroCells228 228)
  have e0 : ∀ k v, w.cell? k = some v → (w.alloc (.cells Tryz.zeroCells228 228)).cell? k = some v := fun k v h => cell_alloc h _
  have d0 := Lib.hid (e0 _ _ c0)
  have d1 := Lib.hid (e0 _ _ c1)
  have d2 := Lib.hid (e0 _ _ c2)
  have d3 := Lib.hid (e0 _ _ c3)
  clear e0
  have HBL := Lib.hid hbl
  clear hbl
  go_enter Tryz.func142, Tryz.ntmps142
  go_wp2
  go_loop [4, 5] (fun a i => ∃ k : Nat, k ≤ 2 ∧ a = .bool true ∧ i = .int .i64 (2 * k : Nat)) (fun _ i => 4 - (intOf i).toNat)
  case atStart => exact ⟨0, by omega, rfl, rfl⟩
  case round =>
    obtain ⟨k, hk, rfl, rfl⟩ := hrel
    rcases (show k = 0 ∨ k = 1 ∨ k = 2 by omega) with rfl | rfl | rfl
    · go_wp2
      go_round
      case rel => exact ⟨1, by omega, rfl, rfl⟩
      case measure => simp [intOf]
    · go_wp2
      go_round
      case rel => exact ⟨2, by omega, rfl, rfl⟩
      case measure => simp [intOf]
    · go_wp2
      go_loopw [7, 61] (fun _ i wr => ∃ k : Nat, k ≤ 256 ∧ i = .int .i64 k ∧ Hid (BW wr w.heap.size (tabL k)) ∧ Below w.heap.size w wr) (fun _ i _ => 256 - (intOf i).toNat)
      case atStart => exact ⟨0, Nat.zero_le _, rfl, hbw, HBL.out⟩
      case round =>
        obtain ⟨k, hk, rfl, hbk, hbr⟩ := hrel
        by_cases hlt : k < 256
        · have hat : (tabL k)[k]? = some 0 := by unfold tabL; simp [hlt]
          have hc := (hbk.out.2 k 0 hat).1
          have hf := (hbk.out.2 k 0 hat).2
          have HS := Lib.hid (hbk.out.set k (UInt8.ofNat k) (by rw [tabL_len]; exact hlt))
          rw [tabL_set] at HS
          have hwr : IntKind.u8.wrap (k : Int) = (k : Int) := by rw [IntKind.wrap_u8]; omega
          have hof : ((UInt8.ofNat k).toNat : Int) = (k : Int) := by
            rw [UInt8.toNat_ofNat']
            omega
          rw [hof] at HS
          have hki : (k : Int) < 256 := by omega
          clear hat hof hst
          go_wp2
          go_roundw
          case rel => exact ⟨k + 1, by omega, by go_num, HS, hbr.setCell (Nat.le_refl _) _⟩
          case measure => simp [intOf]; omega
        · have hk2 : k = 256 := by omega
          subst hk2
          have hqlt : q < w.heap.size := cell_lt c0
          have HB0 := Lib.hid (show BW wr w.heap.size (tabV 0) from hbk.out)
          have HCL := Lib.hid (fun (wr : World) (hb : Below w.heap.size w wr) (j : Nat) => hb.cell (p := ⟨q, j, none⟩) hqlt)
          clear hbk hst
          go_wp2
          go_loopw [8, 9, 10] (fun i _ _ wr => ∃ k : Nat, k ≤ 2 ∧ i = .int .i64 (2 - 2 * (k : Int)) ∧ Hid (BW wr w.heap.size (tabV k)) ∧ Below w.heap.size w wr) (fun i _ _ _ => (2 + intOf i).toNat)
          case atStart => exact ⟨0, Nat.zero_le _, rfl, HB0, hbr⟩
          case round =>
            obtain ⟨k, hk, rfl, hbk, hbr⟩ := hrel
            have a0 := (HCL.out _ hbr 0).trans c0
            have a1 := (HCL.out _ hbr 1).trans c1
            have a2 := (HCL.out _ hbr 2).trans c2
            have a3 := (HCL.out _ hbr 3).trans c3
            rcases (show k = 0 ∨ k = 1 ∨ k = 2 by omega) with rfl | rfl | rfl
            · have hc := (hbk.out.2 10 10 tabV_10).1
              have hf := (hbk.out.2 10 10 tabV_10).2
              have HS := Lib.hid (show BW _ w.heap.size (tabV 1) from hbk.out.set 10 32 (by decide +kernel))
              go_wp2
              go_roundw
              case rel => exact ⟨1, by omega, by go_num, HS, hbr.setCell (Nat.le_refl _) _⟩
              case measure => simp [intOf]
            · have hc := (hbk.out.2 9 9 tabV_9).1
              have hf := (hbk.out.2 9 9 tabV_9).2
              have HS := Lib.hid (show BW _ w.heap.size (tabV 2) from hbk.out.set 9 32 (by decide +kernel))
              go_wp2
              go_roundw
              case rel => exact ⟨2, by omega, by go_num, HS, hbr.setCell (Nat.le_refl _) _⟩
              case measure => simp [intOf]
            · go_wp2
              rw [HEE.out]
              exact ⟨w.heap.size, rfl, Nat.le_refl _, hbr, by rw [← tabV_end]; exact hbk.out⟩
end Go.Proofs.YtjkiehmjffgnlaaGreatDoor

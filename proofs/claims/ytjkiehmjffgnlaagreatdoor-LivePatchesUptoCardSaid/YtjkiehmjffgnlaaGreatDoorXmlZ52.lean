import Derived.Test.YtjkiehmjffgnlaaGreatDoorXmlZ51
import Derived.Deep.RegionHeld3
namespace Go.Proofs.YtjkiehmjffgnlaaGreatDoor
set_option linter.unusedVariables false
set_option linter.unusedSimpArgs false
open Go.RowKit

theorem three_allocL (w : World) (a b c : Obj) : Below w.heap.size w (((w.alloc a).alloc b).alloc c) ∧ (((w.alloc a).alloc b).alloc c).heap[w.heap.size]? = some a ∧ (((w.alloc a).alloc b).alloc c).heap[w.heap.size + 1]? = some b ∧ (((w.alloc a).alloc b).alloc c).heap[w.heap.size + 1 + 1]? = some c := by
  have s1 : (w.alloc a).heap.size = w.heap.size + 1 := World.size_alloc ..
  have s2 : ((w.alloc a).alloc b).heap.size = w.heap.size + 1 + 1 := (World.size_alloc ..).trans (by rw [s1])
  have b1 : Below w.heap.size w (w.alloc a) := (Below.refl _ _).alloc (Nat.le_refl _) _
  have b2 := b1.alloc b1.size b
  refine ⟨b2.alloc b2.size c, ?_, ?_, ?_⟩
  · rw [heap_alloc_old _ _ (by rw [s2]; omega), heap_alloc_old _ _ (by rw [s1]; omega)]
    exact heap_alloc_new w a
  · rw [heap_alloc_old _ _ (by rw [s2]; omega)]
    have := heap_alloc_new (w.alloc a) b
    rwa [s1] at this
  · have := heap_alloc_new ((w.alloc a).alloc b) c
    rwa [s2] at this
theorem take_at {α : Type} {l : List α} {i : Nat} {c : α} (h : l[i]? = some c) : l.take (i + 1) = l.take i ++ [c] := by rw [List.take_add_one, h]; rfl
theorem putD_len (d : List NodeD) (k : KeyT) : (putD d k).length ≤ d.length + 1 := by
  unfold putD
  split
  · omega
  · rw [List.length_append]; exact Nat.le_refl _
theorem keepD_map (k : KeyT) (d : List NodeD) : (keepD k d).map (·.x) = (d.map (·.x)).filter fun n => !decide (keyN n = k) := by
  unfold keepD
  rw [List.filter_map]
  rfl
theorem keepD_len (k : KeyT) (d : List NodeD) : (keepD k d).length ≤ d.length := List.length_filter_le _ _
theorem doneP_at {l : List ChgT} {i : Nat} {c : ChgT} (h : l[i]? = some c) : doneP (l.take (i + 1)) = addK (doneP (l.take i)) (keyN c.value) := by
  unfold doneP; rw [take_at h, List.foldl_append]; rfl
theorem badP_at {l : List ChgT} {i : Nat} {c : ChgT} (h : l[i]? = some c) : badP (l.take (i + 1)) = if protK (keyN c.value) then addK (badP (l.take i)) (keyN c.value) else badP (l.take i) := by
  unfold badP; rw [take_at h, List.foldl_append]; rfl
theorem othP_at {l : List ChgT} {i : Nat} {c : ChgT} (h : l[i]? = some c) : othP (l.take (i + 1)) = if protK (keyN c.value) then othP (l.take i) else addK (othP (l.take i)) (keyN c.value) := by
  unfold othP; rw [take_at h, List.foldl_append]; rfl
theorem nowL_at {dead : List NodeT} {l : List ChgT} {i : Nat} {c : ChgT} (h : l[i]? = some c) : nowL dead (l.take (i + 1)) = if protK (keyN c.value) then nowL dead (l.take i) else stepP (nowL dead (l.take i)) c := by
  unfold nowL; rw [take_at h, List.foldl_append]; rfl
structure PInv (B b0 b1 b2 : Nat) (dead : List NodeT) (l : List ChgT) (i : Nat) (P : Fin 3 → Prt) (v : Value) (d : List NodeD) (w0 w : World) : Prop where
  st : PSt B P v d w0 w
  e0 : (P 0).b = b0 ∧ (P 0).code = 200
  e1 : (P 1).b = b1 ∧ (P 1).code = 403
  e2 : (P 2).b = b2 ∧ (P 2).code = 424
  m0 : (P 0).d.map (·.x) = doneP (l.take i)
  m1 : (P 1).d.map (·.x) = badP (l.take i)
  m2 : (P 2).d.map (·.x) = othP (l.take i)
  mn : d.map (·.x) = nowL dead (l.take i)
  ln : ∀ j, (P j).d.length ≤ i
  lnn : d.length ≤ dead.length + i
theorem fin3 (j : Fin 3) : j = 0 ∨ j = 1 ∨ j = 2 := by
  match j with
  | 0 => exact .inl rfl
  | 1 => exact .inr (.inl rfl)
  | 2 => exact .inr (.inr rfl)
section
variable {B b0 b1 b2 : Nat} {dead : List NodeT} {l : List ChgT} {i : Nat} {P P' : Fin 3 → Prt} {v v' : Value} {d d' : List NodeD} {w0 w w' : World} {c : ChgT}
theorem PInv.bad (h : PInv B b0 b1 b2 dead l i P v d w0 w) (hc : l[i]? = some c) (hp : protK (keyN c.value) = true) (hs : PSt B P' v d w0 w') (hb : ∀ j, (P' j).b = (P j).b ∧ (P' j).code = (P j).code) (q0 : (P' 0).d = putD (P 0).d (keyN c.value)) (q1 : (P' 1).d = putD (P 1).d (keyN c.value)) (q2 : (P' 2).d = (P 2).d) :
    PInv B b0 b1 b2 dead l (i + 1) P' v d w0 w' := by
  refine ⟨hs, ⟨(hb 0).1.trans h.e0.1, (hb 0).2.trans h.e0.2⟩, ⟨(hb 1).1.trans h.e1.1, (hb 1).2.trans h.e1.2⟩, ⟨(hb 2).1.trans h.e2.1, (hb 2).2.trans h.e2.2⟩, ?_, ?_, ?_, ?_, fun j => ?_, by have := h.lnn; omega⟩
  · rw [q0, putD_map, h.m0, doneP_at hc]
  · rw [q1, putD_map, h.m1, badP_at hc, if_pos hp]
  · rw [q2, h.m2, othP_at hc, if_pos hp]
  · rw [h.mn, nowL_at hc, if_pos hp]
  · have l0 := h.ln 0
    have l1 := h.ln 1
    have l2 := h.ln 2
    rcases fin3 j with rfl | rfl | rfl
    · rw [q0]; have := putD_len (P 0).d (keyN c.value); omega
    · rw [q1]; have := putD_len (P 1).d (keyN c.value); omega
    · rw [q2]; omega
theorem PInv.other (h : PInv B b0 b1 b2 dead l i P v d w0 w) (hc : l[i]? = some c) (hp : protK (keyN c.value) = false) (hs : PSt B P' v' d' w0 w') (hb : ∀ j, (P' j).b = (P j).b ∧ (P' j).code = (P j).code) (q0 : (P' 0).d = putD (P 0).d (keyN c.value)) (q1 : (P' 1).d = (P 1).d) (q2 : (P' 2).d = putD (P 2).d (keyN c.value))
    (hd : d'.map (·.x) = stepP (d.map (·.x)) c) (hl : d'.length ≤ d.length + 1) : PInv B b0 b1 b2 dead l (i + 1) P' v' d' w0 w' := by
  have hf : ¬ (protK (keyN c.value) = true) := by rw [hp]; decide
  refine ⟨hs, ⟨(hb 0).1.trans h.e0.1, (hb 0).2.trans h.e0.2⟩, ⟨(hb 1).1.trans h.e1.1, (hb 1).2.trans h.e1.2⟩, ⟨(hb 2).1.trans h.e2.1, (hb 2).2.trans h.e2.2⟩, ?_, ?_, ?_, ?_, fun j => ?_, by have := h.lnn; omega⟩
  · rw [q0, putD_map, h.m0, doneP_at hc]
  · rw [q1, h.m1, badP_at hc, if_neg hf]
  · rw [q2, putD_map, h.m2, othP_at hc, if_neg hf]
  · rw [hd, h.mn, nowL_at hc, if_neg hf]
  · have l0 := h.ln 0
    have l1 := h.ln 1
    have l2 := h.ln 2
    rcases fin3 j with rfl | rfl | rfl
    · rw [q0]; have := putD_len (P 0).d (keyN c.value); omega
    · rw [q1]; omega
    · rw [q2]; have := putD_len (P 2).d (keyN c.value); omega
end
/-- a part in memory and a part in words. -/
def PZ (Q : Nat → Prop) (w : World) (z : PartD × PartT) : Prop := z.1.code = z.2.status ∧ z.1.m = z.2.props.length ∧ NodesP Q w (.slice z.1.A z.1.m z.1.c) z.2.props
theorem parts_full {B : Nat} {v : Value} {w : World} {Z : List (PartD × PartT)} (h : OwnT 43 2 B ((fullD (Z.map (·.1))).map PartD.cells) v w) (hz : ∀ z ∈ Z, PZ anyB w z) : PartsP anyB w v (fullP (Z.map (·.2))) := by
  have h1 : fullD (Z.map (·.1)) = (Z.filter fun z => !decide (z.1.m = 0)).map (·.1) := by unfold fullD; rw [List.filter_map]; rfl
  have h2 : fullP (Z.map (·.2)) = (Z.filter fun z => !decide (z.1.m = 0)).map (·.2) := by
    unfold fullP
    rw [List.filter_map]
    congr 1
    refine List.filter_congr fun z hzm => ?_
    obtain ⟨-, hm, -⟩ := hz z hzm
    show (!z.2.props.isEmpty) = _
    rw [hm]
    cases z.2.props <;> simp
  rw [h1] at h
  rw [h2]
  refine ⟨OwnT.tab h (by simp) (fun j x r hx hr => ?_), fun _ _ _ => trivial⟩
  rw [List.getElem?_map] at hx
  rw [List.map_map, List.getElem?_map] at hr
  cases hzj : (Z.filter fun z => !decide (z.1.m = 0))[j]? with
  | none => rw [hzj] at hx; cases hx
  | some z =>
    rw [hzj] at hx hr
    injection hx with hx
    injection hr with hr
    obtain ⟨q1, q2, q3⟩ := hz z ((List.mem_filter.1 (List.mem_of_getElem? hzj)).1)
    subst hx hr
    exact ⟨_, by show PartD.cells z.1 = _; unfold PartD.cells; rw [q1], q3⟩
theorem KRow.nodes {B : Nat} {v : Value} {d : List NodeD} {w : World} (h : KRow B v d w) (hh : HangD w d) : NodesP anyB w v (d.map (·.x)) := by
  refine ⟨OwnT.tab h (by simp) (fun j x r hx hr => ?_), fun _ _ _ => trivial⟩
  rw [List.getElem?_map] at hx hr
  cases hj : d[j]? with
  | none => rw [hj] at hx; cases hx
  | some p =>
    rw [hj] at hx hr
    injection hx with hx
    injection hr with hr
    subst hx hr
    exact hh p (List.mem_of_getElem? hj)
def PatchP (dead : List NodeT) (l : List ChgT) (w : World) (e : Ending) (w' : World) : Prop :=
  ∃ (A : Option Addr) (c : Nat) (res : List NodeT) (pv : Value) (parts : List PartT) (ok : Bool), e = .returned (.tuple #[.slice A res.length c, pv, .bool ok]) ∧ NodesP anyB w' (.slice A res.length c) res ∧ (A = none → res.length = 0 ∧ c = 0) ∧ PartsP anyB w' pv parts ∧ Below w.heap.size w w' ∧
    (badP l = [] → ok = true ∧ Srt leN res ∧ Stab leN (nowP dead l) res ∧ parts = fullP [⟨200, doneP l⟩]) ∧ (badP l ≠ [] → ok = false ∧ res = dead ∧ parts = fullP [⟨403, badP l⟩, ⟨424, othP l⟩])
theorem PInv.start {dead : List NodeT} {l : List ChgT} {B b0 b1 b2 B3 : Nat} {v : Value} {d : List NodeD} {w w4 : World} (h0 : w4.heap[b0]? = some (.cells #[.int .i64 200, .slice none 0 0] 43 (0, 0))) (h1 : w4.heap[b1]? = some (.cells #[.int .i64 403, .slice none 0 0] 43 (0, 0)))
    (h2 : w4.heap[b2]? = some (.cells #[.int .i64 424, .slice none 0 0] 43 (0, 0))) (hB : B ≤ b0) (h01 : b0 < b1) (h12 : b1 < b2) (h23 : b2 < B3) (hk : KRow B3 v d w4) (hlo : LowD B w4 d) (hdm : d.map (·.x) = dead) (hb : Below B w w4) : ∃ P, PInv B b0 b1 b2 dead l 0 P v d w w4 := by
  refine ⟨fun | 0 => ⟨b0, 200, .slice none 0 0, []⟩ | 1 => ⟨b1, 403, .slice none 0 0, []⟩ | 2 => ⟨b2, 424, .slice none 0 0, []⟩, ⟨⟨fun j => ?_, fun j => ?_, fun j => ?_, fun j k hjk => ?_, fun a j => ?_, fun a j _ k e => ?_, hk.mono (by omega), fun j e => ?_, fun j k e => ?_, fun j p hp => ?_, hlo, hb⟩, ⟨rfl, rfl⟩, ⟨rfl, rfl⟩, ⟨rfl, rfl⟩, rfl, rfl, rfl, hdm, fun j => ?_, by rw [← hdm, List.length_map]; omega⟩⟩
  · rcases fin3 j with rfl | rfl | rfl <;> exact KRow.nil _ _
  · rcases fin3 j with rfl | rfl | rfl
    · exact h0
    · exact h1
    · exact h2
  · rcases fin3 j with rfl | rfl | rfl
    · exact hB
    · show B ≤ b1; omega
    · show B ≤ b2; omega
  · rcases fin3 j with rfl | rfl | rfl <;> rcases fin3 k with rfl | rfl | rfl
    · exact absurd rfl hjk
    · show b0 ≠ b1; omega
    · show b0 ≠ b2; omega
    · show b1 ≠ b0; omega
    · exact absurd rfl hjk
    · show b1 ≠ b2; omega
    · show b2 ≠ b0; omega
    · show b2 ≠ b1; omega
    · exact absurd rfl hjk
  · rcases fin3 j with rfl | rfl | rfl <;> exact fun e => by cases e
  · rcases fin3 a with rfl | rfl | rfl <;> cases e
  · have h := (hk.lt _ e).1
    rcases fin3 j with rfl | rfl | rfl
    · have h' : B3 ≤ b0 := h; omega
    · have h' : B3 ≤ b1 := h; omega
    · have h' : B3 ≤ b2 := h; omega
  · rcases fin3 j with rfl | rfl | rfl <;> exact fun e => by cases e
  · rcases fin3 j with rfl | rfl | rfl <;> cases hp
  · rcases fin3 j with rfl | rfl | rfl <;> exact Nat.le_refl _
def AddsP (B : Nat) (P : Fin 3 → Prt) (v : Value) (d : List NodeD) (i : Fin 3) (k : KeyT) (w0 w : World) (e : Ending) (w' : World) : Prop :=
  e = .returned (.tuple #[]) ∧ ∃ P', PSt B P' v d w0 w' ∧ (∀ c o, Kept P v w c o → Kept P' v w' c o) ∧ (∀ j, (P' j).b = (P j).b ∧ (P' j).code = (P j).code) ∧ (P' i).d = putD (P i).d k ∧ ∀ j, j ≠ i → P' j = P j
theorem PSt.call {B : Nat} {P : Fin 3 → Prt} {v : Value} {d : List NodeD} {w0 w : World} (h : PSt B P v d w0 w) (i : Fin 3) {b : Nat} {code : Int} (e : (P i).b = b ∧ (P i).code = code) (hl : (P i).d.length ≤ 1000000000) (k : KeyT) :
    Calls Tryz.prog 18 #[.pointer (some ⟨b, 0, none⟩), .agg #[.string ⟨k.1.toArray⟩, .string ⟨k.2.toArray⟩]] w (AddsP B P v d i k w0 w) := by
  obtain ⟨rfl, rfl⟩ := e
  exact (add_any B (P i).b (P i).code (P i).v (P i).d k w (h.row i) (bare_hang (h.bare i) w) (h.cell i) h.size (fun e => h.offb i i e.symm) hl).mono fun e w' ha => h.add2 i ha
theorem prow_lit1 {B b : Nat} {p : PartD} {w : World} (h : w.heap[b]? = some (.cells p.cells.toArray 43 (0, 0))) (hB : B ≤ b) : PRow B b 1 [p] w :=
  ⟨⟨rfl, .inr ⟨b, 1, _, rfl, hB, h, Nat.le_refl _, by decide, rfl, rfl⟩⟩, fun r hr => by rw [List.mem_singleton.1 hr]; rfl⟩
theorem prow_lit2 {B b : Nat} {p q : PartD} {w : World} (h : w.heap[b]? = some (.cells (p.cells ++ q.cells).toArray 43 (0, 0))) (hB : B ≤ b) : PRow B b 2 [p, q] w :=
  ⟨⟨rfl, .inr ⟨b, 2, _, rfl, hB, h, Nat.le_refl _, by decide, rfl, rfl⟩⟩, fun r hr => by
    rcases List.mem_cons.1 hr with rfl | hr
    · rfl
    · rw [List.mem_singleton.1 hr]; rfl⟩
def partD (p : Prt) (A : Option Addr) (c : Nat) : PartD := ⟨p.code, A, p.d.length, c⟩
theorem PSt.part {B : Nat} {P : Fin 3 → Prt} {v : Value} {d : List NodeD} {w0 w : World} (h : PSt B P v d w0 w) (i : Fin 3) {A : Option Addr} {c : Nat} (e : (P i).v = .slice A (P i).d.length c) : PZ anyB w (partD (P i) A c, ⟨(P i).code, (P i).d.map (·.x)⟩) := by
  refine ⟨rfl, by show (P i).d.length = _; rw [List.length_map], ?_⟩
  have := (h.row i).nodes (bare_hang (h.bare i) w)
  rw [e] at this
  exact this
theorem stab_mem {X Y : List NodeD} (h : Stab leD X Y) {p : NodeD} (hp : p ∈ Y) : p ∈ X := by
  have h1 : p ∈ Y.filter (eqv leD p) := List.mem_filter.2 ⟨hp, eqv_self leD_ok p⟩
  rw [h.2 p] at h1
  exact (List.mem_filter.1 h1).1
theorem srt_map {d : List NodeD} (h : Srt leD d) : Srt leN (d.map (·.x)) := by
  unfold Srt at h ⊢
  rw [List.pairwise_map]
  exact h
theorem stab_map {X Y : List NodeD} (h : Stab leD X Y) : Stab leN (X.map (·.x)) (Y.map (·.x)) := by
  refine ⟨by rw [List.length_map, List.length_map]; exact h.1, fun y => ?_⟩
  rw [List.filter_map, List.filter_map]
  exact congrArg _ (h.2 ⟨y, none, 0, 0, none, 0, 0⟩)
theorem bad_end {b0 b1 b2 g B7 B9 : Nat} {dead : List NodeT} {l : List ChgT} {P : Fin 3 → Prt} {v v7 : Value} {d d7 : List NodeD} {w wr w7 W w9 : World} {A1 A2 : Option Addr} {p1 p2 : Nat} (HP : PInv w.heap.size b0 b1 b2 dead l l.length P v d w wr) (hbe : badP l ≠ []) (hv1 : (P 1).v = .slice A1 (P 1).d.length p1) (hv2 : (P 2).v = .slice A2 (P 2).d.length p2)
    (hk7 : KRow B7 v7 d7 w7) (hd7 : d7.map (·.x) = dead) (hl7 : ∀ p ∈ d7, NodeP (fun k => k < w.heap.size ∧ k < B7) w7 p.cells p.x) (hw7 : Below wr.heap.size wr w7) (hW : Below w7.heap.size w7 W) (hgo : v7.ownBlock ≠ some g) (hgw : wr.heap.size ≤ g) (hg9 : RGr (some g) (some g) W w9)
    (hp9 : PRow B9 g 2 (fullD [⟨403, A1, (P 1).d.length, p1⟩, ⟨424, A2, (P 2).d.length, p2⟩]) w9) : PatchP dead l w (.returned (.tuple #[v7, .slice (some ⟨g, 0, none⟩) (fullD [⟨403, A1, (P 1).d.length, p1⟩, ⟨424, A2, (P 2).d.length, p2⟩]).length 2, .bool false])) w9 := by
  have hs0 := HP.st.size
  have hs1 := hw7.size
  have hs2 := hW.size
  have hb9 : Below wr.heap.size wr w9 := hw7.trans ((hW.mono hs1).trans (hg9.low (fun k e => by injection e with e; omega) (Nat.le_trans hs1 hs2)))
  have hS9 := HP.st.under hb9
  have hk9 : KRow B7 v7 d7 w9 := hk7.keep fun o ho => by
    have hol := (hk7.lt o ho).2
    exact (hg9.block o (by omega) (fun e => hgo (by rw [ho, e]))).trans (hW.block o hol)
  have hh9 : HangD w9 d7 := fun p hp => (hl7 p hp).move ⟨Nat.le_trans hs2 hg9.size, fun k hk hlt => ⟨trivial, (hg9.block k (by omega) (fun e => by injection e with e; have := hk.1; omega)).trans (hW.block k hlt)⟩⟩
  have hN := hk9.nodes hh9
  rw [hd7] at hN
  have m1 := HP.m1
  have m2 := HP.m2
  rw [List.take_length] at m1 m2
  have hl : d7.length = dead.length := by rw [← hd7, List.length_map]
  have hpp : PartsP anyB w9 (.slice (some ⟨g, 0, none⟩) (fullD [⟨403, A1, (P 1).d.length, p1⟩, ⟨424, A2, (P 2).d.length, p2⟩]).length 2) (fullP [⟨403, badP l⟩, ⟨424, othP l⟩]) := by
    rw [← m1, ← m2]
    refine parts_full (Z := [(⟨403, A1, (P 1).d.length, p1⟩, ⟨403, (P 1).d.map (·.x)⟩), (⟨424, A2, (P 2).d.length, p2⟩, ⟨424, (P 2).d.map (·.x)⟩)]) hp9 (fun z hz => ?_)
    simp only [List.mem_cons, List.not_mem_nil, or_false] at hz
    rcases hz with rfl | rfl
    · exact ⟨rfl, (hS9.part 1 hv1).2.1, (hS9.part 1 hv1).2.2⟩
    · exact ⟨rfl, (hS9.part 2 hv2).2.1, (hS9.part 2 hv2).2.2⟩
  rcases hk9.form with ⟨rfl, h2⟩ | ⟨g', cap, rfl, -⟩
  · have h0 : dead.length = 0 := by rw [← hl, h2]; rfl
    exact ⟨none, 0, dead, _, _, false, by rw [h0], by rw [h0]; exact hN, (fun _ => ⟨h0, rfl⟩), hpp, hS9.base, (fun h => absurd h hbe), fun _ => ⟨rfl, rfl, rfl⟩⟩
  · refine ⟨_, cap, dead, _, _, false, by rw [← hl], by rw [← hl]; exact hN, (fun e => by cases e), hpp, hS9.base, (fun h => absurd h hbe), fun _ => ⟨rfl, rfl, rfl⟩⟩
end Go.Proofs.YtjkiehmjffgnlaaGreatDoor
namespace Go.Proofs.YtjkiehmjffgnlaaGreatDoor
set_option linter.unusedVariables false
set_option linter.unusedSimpArgs false
open Go.RowKit

set_option maxHeartbeats 16000000 in
set_option maxRecDepth 100000 in
set_option linter.unusedSimpArgs false in
theorem disc_any (lA : Option Addr) (lc : Nat) (ls : List LockT) (pA : Option Addr) (pc : Nat) (path : List (List UInt8)) (now : Int) (w : World) (hl : Locks w (.slice lA ls.length lc) ls) (hp : Strs w (.slice pA path.length pc) path) (hok : ∀ l ∈ ls, lockOk l) (hn : ls ≠ [] → -2305843009213693952 ≤ now) (hls : ls.length ≤ 10000000) (hE : MEnv w) :
    Calls Tryz.prog 14 #[.slice lA ls.length lc, .slice pA path.length pc, .int .i64 now] w (DiscP (countC now path ls) w) := by
  obtain ⟨E, hEE⟩ : ∃ E, E = DiscP (countC now path ls) w := ⟨_, rfl⟩
  rw [← hEE]
  have HEE := Lib.hid hEE
  obtain ⟨-, hlc, hlm, hlk⟩ := lock_at hl
  unfold maxLen at hlm
  have HLk := Lib.hid hlk
  have HP := Lib.hid hp
  have HOk := Lib.hid hok
  have HN := Lib.hid hn
  have HE := Lib.hid hE
  obtain ⟨hb3, hc0, hc1, hc2⟩ := three_allocL w (.cells #[.string ⟨#[]⟩, .string ⟨#[]⟩, .string ⟨#[]⟩, .slice none 0 0, .slice none 0 0] 46 (0, 0)) (.cells #[.string ⟨#[]⟩, .string ⟨#[68, 65, 86, 58]⟩, .string ⟨#[108, 111, 99, 107, 100, 105, 115, 99, 111, 118, 101, 114, 121]⟩, .slice none 0 0, .slice none 0 0] 46 (0, 0)) (.cells #[.string ⟨#[]⟩, .string ⟨#[68, 65, 86, 58]⟩, .string ⟨#[108, 111, 99, 107, 100, 105, 115, 99, 111, 118, 101, 114, 121]⟩, .slice none 0 0, .slice none 0 0] 46 (0, 0))
  have HS0 := Lib.hid (show DiS w w.heap.size (w.heap.size + 1 + 1) (.slice none 0 0) [] _ from ⟨hc0, hc2, RowG.nil _ _ _ _ _ _, hb3, rfl, by omega⟩)
  clear hEE hl hp hok hn hE hlk hb3 hc0 hc1 hc2
  go_enter Tryz.func14, Tryz.ntmps14
  go_wp2_with fail
  refine (ldav_ex _ _ _ _ _).mono ?_
  rintro e w2 ⟨rfl, rfl⟩
  go_wp2_with fail
  generalize ((w.alloc (.cells #[.string ⟨#[]⟩, .string ⟨#[]⟩, .string ⟨#[]⟩, .slice none 0 0, .slice none 0 0] 46 (0, 0))).alloc (.cells #[.string ⟨#[]⟩, .string ⟨#[68, 65, 86, 58]⟩, .string ⟨#[108, 111, 99, 107, 100, 105, 115, 99, 111, 118, 101, 114, 121]⟩, .slice none 0 0, .slice none 0 0] 46 (0, 0))).alloc (.cells #[.string ⟨#[]⟩, .string ⟨#[68, 65, 86, 58]⟩, .string ⟨#[108, 111, 99, 107, 100, 105, 115, 99, 111, 118, 101, 114, 121]⟩, .slice none 0 0, .slice none 0 0] 46 (0, 0)) = W0 at *
  obtain ⟨q, hq⟩ : ∃ q, q = w.heap.size + 1 + 1 := ⟨_, rfl⟩
  rw [← hq] at HS0 ⊢
  clear hq
  obtain ⟨q6, hq6⟩ : ∃ q6, q6 = w.heap.size := ⟨_, rfl⟩
  rw [← hq6] at HS0 ⊢
  clear hq6
  go_loopg [13] ls.length (fun gk v13 wr => ∃ (i : Nat) (kv : Value) (ks : List NodeT), i + gk = ls.length ∧ v13 = .int .i64 i ∧ ks.length = countC now path (ls.take i) ∧ ks.length ≤ i ∧ Hid (DiS w q6 q kv ks wr))
  case atStart => exact ⟨0, .slice none 0 0, [], by omega, rfl, rfl, Nat.le_refl _, HS0⟩
  case round =>
    obtain ⟨i, kv, ks, hig, rfl, hkn, hki, HS⟩ := hrel
    rcases hd : ls.drop i with _ | ⟨l, rest⟩
    · have hi2 : i = ls.length := by have := drop_nil hd; omega
      subst hi2
      rw [List.take_length] at hkn
      have k1 : ¬ ((ls.length : Int) < ls.length) := by omega
      obtain ⟨rA, rc, hkv, hrc1, hrc2⟩ := HS.out.row.form
      subst hkv
      obtain ⟨f0, f1, f2, f3, f4, hf⟩ : ∃ f0 f1 f2 f3 f4 : Value, [f0, f1, f2, f3, f4] = [.string ⟨#[]⟩, .string ⟨#[68, 65, 86, 58]⟩, .string ⟨#[108, 111, 99, 107, 100, 105, 115, 99, 111, 118, 101, 114, 121]⟩, .slice none 0 0, .slice rA ks.length rc] := ⟨_, _, _, _, _, rfl⟩
      have hat : wr.heap[q]? = some (.cells #[f0, f1, f2, f3, f4] 46 (0, 0)) := by rw [show (#[f0, f1, f2, f3, f4] : Array Value) = [f0, f1, f2, f3, f4].toArray from rfl, hf]; exact HS.out.at_
      obtain ⟨W1, W2, W3, W4, W5, s0, s1, s2, s3, s4, hW, hD⟩ := disc_final HS.out hf
      rw [hkn] at hD
      have y0 := xat hat 0
      have y1 := xat hat 1
      have y2 := xat hat 2
      have y3 := xat hat 3
      have y4 := xat hat 4
      simp only [List.getElem?_toArray, List.getElem?_cons_zero, List.getElem?_cons_succ] at y0 y1 y2 y3 y4
      have HW := Lib.hid hW
      have HD := Lib.hid hD
      clear hf hat hW hD hd hkn HS HLk HOk HN HE HP
      go_wp2
      refine bodyPost_ret (results_c1 rfl _ _ _ _ _ _ rfl HW.out Tryz.underlying46 rfl (by kernel_rfl)) rfl ?_
      rw [HEE.out]
      exact HD.out
    · obtain ⟨hlt, hx, hr⟩ := drop_consA hd
      obtain ⟨bl, o, sA, sc, rfl, hbl, c0, c1, c2, c3, c4, c5, hst⟩ := HLk.out i l hx
      have hlo : Below w.heap.size w wr := HS.out.hq6 ▸ HS.out.lo
      have hbs := hlo.block bl hbl
      have e0 : wr.cell? ⟨bl, o + i * 6, none⟩ = some (.string ⟨l.token.toArray⟩) := by rw [cell_eq hbs]; exact c0
      have e1 : wr.cell? ⟨bl, o + i * 6 + 1, none⟩ = some (.slice sA l.path.length sc) := by rw [cell_eq hbs]; exact c1
      have e2 : wr.cell? ⟨bl, o + i * 6 + 2, none⟩ = some (.bool l.deep) := by rw [cell_eq hbs]; exact c2
      have e3 : wr.cell? ⟨bl, o + i * 6 + 3, none⟩ = some (.bool l.excl) := by rw [cell_eq hbs]; exact c3
      have e4 : wr.cell? ⟨bl, o + i * 6 + 4, none⟩ = some (.string ⟨l.owner.toArray⟩) := by rw [cell_eq hbs]; exact c4
      have e5 : wr.cell? ⟨bl, o + i * 6 + 5, none⟩ = some (.int .i64 l.upto) := by rw [cell_eq hbs]; exact c5
      have k1 : (i : Int) < ls.length := by omega
      have k2 : (0 : Int) ≤ i := by omega
      have HCn := Lib.hid (countC_at (now := now) (p := path) hx)
      have HLo := Lib.hid (HOk.out l (List.mem_of_getElem? hx))
      have HNn := Lib.hid (HN.out (by intro e; rw [e] at hlt; simp at hlt))
      have hba : Below wr.heap.size wr (wr.alloc (.cells #[.string ⟨l.token.toArray⟩, .slice sA l.path.length sc, .bool l.deep, .bool l.excl, .string ⟨l.owner.toArray⟩, .int .i64 l.upto] 48 (0, 0))) := (Below.refl _ _).alloc (Nat.le_refl _) _
      have hqa := heap_alloc_new wr (.cells #[.string ⟨l.token.toArray⟩, .slice sA l.path.length sc, .bool l.deep, .bool l.excl, .string ⟨l.owner.toArray⟩, .int .i64 l.upto] 48 (0, 0))
      have HSa := Lib.hid (HS.out.under hba)
      have hloa := hlo.trans (hba.mono hlo.size)
      have HCv := Lib.hid (covers_any l sA pA sc pc path _ (hst.below hloa (Nat.le_refl _)) (HP.out.below hloa (Nat.le_refl _)))
      have HSt := Lib.hid hst
      have HLa := Lib.hid hloa
      have HQa := Lib.hid hqa
      clear c0 c1 c2 c3 c4 c5 hd hr hx hbs hst hba hqa hloa hlo
      by_cases hgt : now < l.upto
      · rw [show decide (now < l.upto) = true from decide_eq_true hgt, Bool.true_and] at HCn
        go_wp2_with fail
        refine HCv.out.mono ?_
        rintro e w5 ⟨rfl, hb5⟩
        have HS5 := Lib.hid (HSa.out.under hb5)
        have HL5 := Lib.hid (HLa.out.trans (hb5.mono HLa.out.size))
        have hq5 := (hb5.block _ (xlt HQa.out)).trans HQa.out
        generalize coversL l path = cv at *
        cases cv
        · have hkn2 : ks.length = countC now path (ls.take (i + 1)) := by rw [HCn.out, hkn]; rfl
          clear hb5 hq5 e0 e1 e2 e3 e4 e5
          go_wp2
          go_roundg (gk - 1)
          case measure => omega
          case rel => exact ⟨i + 1, kv, ks, by omega, by go_num, hkn2, by omega, HS5⟩
        · have hkn2 : ks.length + 1 = countC now path (ls.take (i + 1)) := by rw [HCn.out, hkn]; rfl
          have HKn := Lib.hid hkn2
          obtain ⟨q9, hq9⟩ : ∃ q9, q9 = wr.heap.size := ⟨_, rfl⟩
          rw [← hq9] at hq5 ⊢
          clear hq9
          have x0 := xat hq5 0
          have x1 := xat hq5 1
          have x2 := xat hq5 2
          have x3 := xat hq5 3
          have x4 := xat hq5 4
          have x5 := xat hq5 5
          have y4 := xat HS5.out.at_ 4
          simp only [List.getElem?_toArray, List.getElem?_cons_zero, List.getElem?_cons_succ] at x0 x1 x2 x3 x4 x5 y4
          have hd1 : Below w5.heap.size w5 w5.drew := below_draws (Below.refl _ _) 1
          have HAc := Lib.hid (active_any l sA sc now w5.drew (HSt.out.below (HL5.out.trans (hd1.mono HL5.out.size)) (Nat.le_refl _)) HLo.out.1 HLo.out.2.1 (by have := HNn.out; omega) (by have := HNn.out; have := HLo.out.2.2; omega) (HE.out.below (HL5.out.trans (hd1.mono HL5.out.size))))
          have hql : q < w5.heap.size := xlt HS5.out.at_
          have HY := Lib.hid (fun (w7 : World) (h : Below w5.drew.heap.size w5.drew w7) (ob : Obj) => (show w7.cell? ⟨q, 4, none⟩ = some kv ∧ (w7.alloc ob).cell? ⟨q, 4, none⟩ = some kv from
            ⟨(h.cell (p := ⟨q, 4, none⟩) hql).trans y4, ((h.alloc h.size ob).cell (p := ⟨q, 4, none⟩) hql).trans y4⟩))
          have HAp := Lib.hid (fun (w7 : World) (h : Below w5.drew.heap.size w5.drew w7) (f0 f1 f2 f3 f4 : Value) (x : NodeT) (hy : NodeP (fun k => w5.drew.heap.size ≤ k) w7 [f0, f1, f2, f3, f4] x) (h1 : ∀ u ∈ [f0, f1, f2, f3, f4], u.oneCell' = true) => HS5.out.app (w1 := w7) (hd1.trans h) hy h1 (by omega))
          clear hb5 hq5 e0 e1 e2 e3 e4 e5 HS HSa HLa HQa HCn hkn2 HSt HLo HNn hkn
          go_upto_region 6 with (fail)
          go_region_law (first
            | (have _h := HB7; refine step_app_ex rfl (.tmp 27) (.tmp 31) rfl (by rfl) (by rfl) ?_; obtain ⟨kA, kc, w8, hrun, y8, z8, hS8⟩ := HAp.out w7 HB7.out f0 f1 f2 f3 f4 xx HYn.out h17; refine ⟨_, _, hrun, ?_⟩; have HS8 := Lib.hid hS8; clear hrun hS8)
            | (go_simp; go_at_call 37; refine HAc.out.mono ?_; rintro e w7 ⟨f0, f1, f2, f3, f4, xx, rfl, hyn, hb7, h17⟩; have HB7 := Lib.hid hb7; have HYn := Lib.hid hyn; obtain ⟨yA, yB⟩ := HY.out w7 hb7 (.cells #[f0, f1, f2, f3, f4] 46 (0, 0)); clear hyn hb7))
          all_goals
            go_wp2
            go_roundg (gk - 1)
            case measure => omega
            case rel => exact ⟨i + 1, _, ks ++ [xx], by omega, by go_num, by rw [List.length_append]; exact HKn.out, by rw [List.length_append]; simp only [List.length_cons, List.length_nil]; omega, HS8⟩
      · rw [show decide (now < l.upto) = false from decide_eq_false hgt, Bool.false_and] at HCn
        have hkn2 : ks.length = countC now path (ls.take (i + 1)) := by rw [HCn.out, hkn]; rfl
        go_wp2
        go_roundg (gk - 1)
        case measure => omega
        case rel => exact ⟨i + 1, kv, ks, by omega, by go_num, hkn2, by omega, HSa⟩
end Go.Proofs.YtjkiehmjffgnlaaGreatDoor
namespace Go.Proofs.YtjkiehmjffgnlaaGreatDoor
set_option linter.unusedVariables false
set_option linter.unusedSimpArgs false
open Go.RowKit

theorem RowG.appMany {α : Type} {e : TypeId} {n : Nat} {R : (Nat → Prop) → World → List Value → α → Prop} {B : Nat} {w : World} {v : Value} {xs ys : List α} {P : Program} {t : TypeId} {z : Value} {bytes : Nat} (E : ElemN P t e n z bytes) (hM : Mov R) (ty : TypeId) (h : RowG e n R (fun _ => True) B w v xs) (hB : B ≤ w.heap.size) {A : Option Addr} {cap : Nat}
    (hy : Tab n (R (fun k => some k ≠ v.ownBlock)) w (.slice A ys.length cap) ys) (h1 : ∀ Q cs x, R Q w cs x → ∀ u ∈ cs, u.oneCell' = true) (hlen : (xs.length + ys.length) * bytes ≤ 140737488355328) :
    ∃ v' w', (Builtin.append_ #[t, t] ty #[v, .slice A ys.length cap]).run P w = .ok v' w' ∧ RowG e n R (fun _ => True) B w' v' (xs ++ ys) ∧ Below B w w' ∧ w.grownBy w' v.ownBlock ∧ (v'.ownBlock = v.ownBlock ∨ v'.ownBlock = some w.heap.size) := by
  obtain ⟨rows, r1, r2, r3⟩ := h
  have hRP : RowP e n B R (fun k => some k ≠ v.ownBlock ∧ k < w.heap.size) w v xs := ⟨rows, r1, r2, fun j r x hr hx => hM _ _ _ _ _ _ (r3 j r x hr hx) (Moves.same w fun k hk hlt => ⟨hk.2, hlt⟩)⟩
  have hy2 : Tab n (R (fun k => some k ≠ v.ownBlock ∧ k < w.heap.size)) w (.slice A ys.length cap) ys := by
    obtain ⟨A', cap', hv, g1, g2, g3⟩ := hy
    refine ⟨A', cap', hv, g1, g2, fun j x hj => ?_⟩
    obtain ⟨b, o, hA, hb, cs, hl, hc, hr⟩ := g3 j x hj
    exact ⟨b, o, hA, hb, cs, hl, hc, hM _ _ _ _ _ _ hr (Moves.same w fun k hk hlt => ⟨hk, hlt⟩)⟩
  obtain ⟨v', w', hrun, ⟨rws, g1, g2, g3⟩, hb, hg, hn⟩ := run_appMany E hM ty hRP (fun k hk => hk.1) hB hy2 (h1 _) hlen
  refine ⟨v', w', hrun, ⟨rws, g1, g2, fun j r x hr hx => hM _ _ _ _ _ _ (g3 j r x hr hx) (Moves.same _ fun k hk _ => ⟨trivial, ?_⟩)⟩, hb, hg, hn⟩
  rcases hn with hn | hn
  · rw [hn]; exact hk.1
  · rw [hn]; intro e; injection e with e; have := hk.2; omega
structure AllS (w0 : World) (kind size etag : Int) (v : Value) (ks : List NodeT) (w : World) : Prop where
  info : w.heap[w0.heap.size]? = some (.cells #[.int .i64 kind, .int .i64 size, .int .i64 etag] 33 (0, 0))
  row : RowG 46 5 NodeP (fun _ => True) (w0.heap.size + 1) w v ks
  lo : Below w0.heap.size w0 w
section
variable {w0 w w' : World} {kind size etag : Int} {v v' : Value} {ks ys : List NodeT}
theorem AllS.big (h : AllS w0 kind size etag v ks w) : w0.heap.size + 1 ≤ w.heap.size := xlt h.info
theorem AllS.under (h : AllS w0 kind size etag v ks w) (hb : Below w.heap.size w w') : AllS w0 kind size etag v ks w' := by
  have := h.big
  exact ⟨(hb.block _ (xlt h.info)).trans h.info, h.row.under mov_nodeL hb, h.lo.trans (hb.mono (by omega))⟩
theorem AllS.app (h : AllS w0 kind size etag v ks w) {A : Option Addr} {cap : Nat} (hy : Tab 5 (NodeP (fun k => some k ≠ v.ownBlock)) w (.slice A ys.length cap) ys) (hl : ks.length + ys.length ≤ 1000000000) :
    ∃ v' w', (Builtin.append_ #[22, 22] 22 #[v, .slice A ys.length cap]).run Tryz.prog w = .ok v' w' ∧ AllS w0 kind size etag v' (ks ++ ys) w' ∧ Below (w0.heap.size + 1) w w' := by
  have hs := h.big
  obtain ⟨v', w', hrun, hr, hb, hg, hn⟩ := h.row.appMany elemN mov_nodeL 22 hs hy (fun Q => node_oneP) (by omega)
  exact ⟨v', w', hrun, ⟨(hb.block _ (Nat.lt_succ_self _)).trans h.info, hr, h.lo.trans (hb.mono (Nat.le_succ _))⟩, hb⟩
theorem AllS.two (h : AllS w0 kind size etag v ks w) (hb : Below w.heap.size w w') {a0 a1 a2 a3 a4 b0 b1 b2 b3 b4 : Value} {x y : NodeT} (hx : NodeP (fun k => w.heap.size ≤ k) w' [a0, a1, a2, a3, a4] x) (hy : NodeP (fun k => w.heap.size ≤ k) w' [b0, b1, b2, b3, b4] y) (hl : ks.length ≤ 1000) :
    ∃ v' w2, (Builtin.append_ #[22, 22] 22 #[v, .slice (some ⟨w'.heap.size, 0, none⟩) 2 2]).run Tryz.prog (w'.alloc (.cells #[a0, a1, a2, a3, a4, b0, b1, b2, b3, b4] 46 (0, 0))) = .ok v' w2 ∧ AllS w0 kind size etag v' (ks ++ [x, y]) w2 ∧ Below (w0.heap.size + 1) w w2 := by
  have hal : Below w'.heap.size w' (w'.alloc (.cells #[a0, a1, a2, a3, a4, b0, b1, b2, b3, b4] 46 (0, 0))) := (Below.refl _ _).alloc (Nat.le_refl _) _
  have hq := heap_alloc_new w' (.cells #[a0, a1, a2, a3, a4, b0, b1, b2, b3, b4] 46 (0, 0))
  have h2 := h.under (hb.trans (hal.mono hb.size))
  have hne : ∀ k, w.heap.size ≤ k → some k ≠ v.ownBlock := fun k hk e => by have := (h.row.lt k e.symm).2; omega
  have hT : NodesP (fun k => some k ≠ v.ownBlock) (w'.alloc (.cells #[a0, a1, a2, a3, a4, b0, b1, b2, b3, b4] 46 (0, 0))) (.slice (some ⟨w'.heap.size, 0, none⟩) 2 2) [x, y] :=
    nodes_lit (rows := [[a0, a1, a2, a3, a4], [b0, b1, b2, b3, b4]]) (xs := [x, y]) hq rfl (show 2 ≤ maxLen by unfold maxLen; decide) (fun j r k h1 h2 => by
      match j, h1, h2 with
      | 0, h1, h2 => injection h1 with h1; injection h2 with h2; subst h1 h2; exact hx.move (Moves.below hal fun k hk _ => hne k hk)
      | 1, h1, h2 => injection h1 with h1; injection h2 with h2; subst h1 h2; exact hy.move (Moves.below hal fun k hk _ => hne k hk)
      | j + 2, h1, h2 => simp at h1) (hne _ hb.size)
  obtain ⟨v', w2, hrun, hS, hbb⟩ := h2.app (ys := [x, y]) hT.1 (by simp only [List.length_cons, List.length_nil]; omega)
  have hbg := h.big
  exact ⟨v', w2, hrun, hS, (hb.mono hbg).trans ((hal.mono (Nat.le_trans hbg hb.size)).trans hbb)⟩
end
def kindT (k : Int) : NodeT := davN [114, 101, 115, 111, 117, 114, 99, 101, 116, 121, 112, 101] (if k = 2 then [davN [99, 111, 108, 108, 101, 99, 116, 105, 111, 110] []] else [])
def etagT (size etag : Int) : List NodeT := [davN [103, 101, 116, 99, 111, 110, 116, 101, 110, 116, 108, 101, 110, 103, 116, 104] [textN (Lib.itoa size)], davN [103, 101, 116, 101, 116, 97, 103] [textN (34 :: (Lib.itoa etag ++ [34]))]]
def suppT : NodeT := davN [115, 117, 112, 112, 111, 114, 116, 101, 100, 108, 111, 99, 107] [davN [108, 111, 99, 107, 101, 110, 116, 114, 121] (scopeN true), davN [108, 111, 99, 107, 101, 110, 116, 114, 121] (scopeN false)]
def discT (K : List NodeT) : NodeT := davN [108, 111, 99, 107, 100, 105, 115, 99, 111, 118, 101, 114, 121] K
def allN (kind size etag : Int) (K dead : List NodeT) : List NodeT := kindT kind :: ((if kind = 1 then etagT size etag else []) ++ suppT :: discT K :: dead)
def AllP (kind size etag : Int) (n : Nat) (dead : List NodeT) (w : World) (e : Ending) (w' : World) : Prop :=
  ∃ v d K, e = .returned v ∧ K.length = n ∧ d.map (·.x) = allN kind size etag K dead ∧ KRow w.heap.size v d w' ∧ (∀ p ∈ d, NodeP (fun k => some k ≠ v.ownBlock) w' p.cells p.x) ∧ Below w.heap.size w w'
theorem AllS.done {w0 w : World} {kind size etag : Int} {v : Value} {ks : List NodeT} (h : AllS w0 kind size etag v ks w) : ∃ d : List NodeD, d.map (·.x) = ks ∧ KRow w0.heap.size v d w ∧ ∀ p ∈ d, NodeP (fun k => some k ≠ v.ownBlock) w p.cells p.x := by
  obtain ⟨rows, r1, r2, r3⟩ := h.row
  obtain ⟨d, h1, h2, h3⟩ := nodes_of (Q := fun k => True ∧ some k ≠ v.ownBlock) ks rows r2 (fun j x r hx hr => r3 j r x hr hx)
  refine ⟨d, h2, ?_, fun p hp => (h3 p hp).move (Moves.same _ fun k hk _ => hk.1.2)⟩
  have hk : KRow (w0.heap.size + 1) v d w := by unfold KRow; rw [h1]; exact r1
  exact hk.mono (Nat.le_succ _)
theorem KRow.nodesB {B : Nat} {Q : Nat → Prop} {v : Value} {d : List NodeD} {w : World} (h : KRow B v d w) (hh : ∀ p ∈ d, NodeP Q w p.cells p.x) (hQ : ∀ k, B ≤ k → Q k) : NodesP Q w v (d.map (·.x)) := by
  refine ⟨OwnT.tab h (by simp) (fun j x r hx hr => ?_), fun _ k hk => hQ k (h.lt k hk).1⟩
  rw [List.getElem?_map] at hx hr
  cases hj : d[j]? with
  | none => rw [hj] at hx; cases hx
  | some p =>
    rw [hj] at hx hr
    injection hx with hx
    injection hr with hr
    subst hx hr
    exact hh p (List.mem_of_getElem? hj)
theorem dav_over (nm : List UInt8) {B : Nat} {w w1 : World} {A : Option Addr} {m c : Nat} {ks : List NodeT} (hN : NodesP (fun k => B ≤ k) w (.slice A m c) ks) (h : w1 = w.alloc (.cells #[.string ⟨#[]⟩, .string ⟨#[68, 65, 86, 58]⟩, .string ⟨nm.toArray⟩, .slice none 0 0, .slice A m c] 46 (0, 0))) :
    Below w.heap.size w w1 ∧ NodeP (fun k => B ≤ k) w1 [.string ⟨#[]⟩, .string ⟨#[68, 65, 86, 58]⟩, .string ⟨nm.toArray⟩, .slice none 0 0, .slice A m c] (davN nm ks) := by
  have hb : Below w.heap.size w w1 := by rw [h]; exact (Below.refl _ _).alloc (Nat.le_refl _) _
  exact ⟨hb, dav_node (hN.move (Moves.below hb fun k hk _ => hk))⟩
theorem dav_two (nm : List UInt8) {B : Nat} {w w1 : World} {a0 a1 a2 a3 a4 b0 b1 b2 b3 b4 : Value} {x y : NodeT} (hB : B ≤ w.heap.size) (hx : NodeP (fun k => B ≤ k) w [a0, a1, a2, a3, a4] x) (hy : NodeP (fun k => B ≤ k) w [b0, b1, b2, b3, b4] y)
    (h : w1 = (w.alloc (.cells #[a0, a1, a2, a3, a4, b0, b1, b2, b3, b4] 46 (0, 0))).alloc (.cells #[.string ⟨#[]⟩, .string ⟨#[68, 65, 86, 58]⟩, .string ⟨nm.toArray⟩, .slice none 0 0, .slice (some ⟨w.heap.size, 0, none⟩) 2 2] 46 (0, 0))) :
    Below w.heap.size w w1 ∧ NodeP (fun k => B ≤ k) w1 [.string ⟨#[]⟩, .string ⟨#[68, 65, 86, 58]⟩, .string ⟨nm.toArray⟩, .slice none 0 0, .slice (some ⟨w.heap.size, 0, none⟩) 2 2] (davN nm [x, y]) := by
  obtain ⟨hb, h0, -⟩ := two_alloc w (.cells #[a0, a1, a2, a3, a4, b0, b1, b2, b3, b4] 46 (0, 0)) (.cells #[.string ⟨#[]⟩, .string ⟨#[68, 65, 86, 58]⟩, .string ⟨nm.toArray⟩, .slice none 0 0, .slice (some ⟨w.heap.size, 0, none⟩) 2 2] 46 (0, 0))
  rw [← h] at hb h0
  refine ⟨hb, dav_node (nodes_lit (rows := [[a0, a1, a2, a3, a4], [b0, b1, b2, b3, b4]]) (xs := [x, y]) h0 rfl (show 2 ≤ maxLen by unfold maxLen; decide) (fun j r k h1 h2 => ?_) hB)⟩
  match j, h1, h2 with
  | 0, h1, h2 => injection h1 with h1; injection h2 with h2; subst h1 h2; exact hx.move (Moves.below hb fun k hk _ => hk)
  | 1, h1, h2 => injection h1 with h1; injection h2 with h2; subst h1 h2; exact hy.move (Moves.below hb fun k hk _ => hk)
  | j + 2, h1, h2 => simp at h1
structure KdS (w0 : World) (kind size etag : Int) (q : Nat) (kA : Option Addr) (m kc : Nat) (kd : List NodeT) (w : World) : Prop where
  info : w.heap[w0.heap.size]? = some (.cells #[.int .i64 kind, .int .i64 size, .int .i64 etag] 33 (0, 0))
  at_ : w.heap[q]? = some (.cells #[.string ⟨#[]⟩, .string ⟨#[68, 65, 86, 58]⟩, .string ⟨#[114, 101, 115, 111, 117, 114, 99, 101, 116, 121, 112, 101]⟩, .slice none 0 0, .slice kA m kc] 46 (0, 0))
  kd : NodesP (fun k => w0.heap.size ≤ k) w (.slice kA m kc) kd
  lo : Below w0.heap.size w0 w
theorem KdS.start {w0 w : World} {kind size etag : Int} {q : Nat} {kA : Option Addr} {m kc : Nat} {kd : List NodeT} (h : KdS w0 kind size etag q kA m kc kd w) (hk : davN [114, 101, 115, 111, 117, 114, 99, 101, 116, 121, 112, 101] kd = kindT kind) :
    AllS w0 kind size etag (.slice (some ⟨w.heap.size, 0, none⟩) 1 1) [kindT kind] (w.alloc (.cells #[.string ⟨#[]⟩, .string ⟨#[68, 65, 86, 58]⟩, .string ⟨#[114, 101, 115, 111, 117, 114, 99, 101, 116, 121, 112, 101]⟩, .slice none 0 0, .slice kA m kc] 46 (0, 0))) := by
  have hal : Below w.heap.size w (w.alloc (.cells #[.string ⟨#[]⟩, .string ⟨#[68, 65, 86, 58]⟩, .string ⟨#[114, 101, 115, 111, 117, 114, 99, 101, 116, 121, 112, 101]⟩, .slice none 0 0, .slice kA m kc] 46 (0, 0))) := (Below.refl _ _).alloc (Nat.le_refl _) _
  have hil := xlt h.info
  refine ⟨(hal.block _ hil).trans h.info, ?_, h.lo.trans (hal.mono (by omega))⟩
  rw [← hk]
  refine RowG.lit (rows := [[.string ⟨#[]⟩, .string ⟨#[68, 65, 86, 58]⟩, .string ⟨#[114, 101, 115, 111, 117, 114, 99, 101, 116, 121, 112, 101]⟩, .slice none 0 0, .slice kA m kc]]) (xs := [davN [114, 101, 115, 111, 117, 114, 99, 101, 116, 121, 112, 101] kd]) (heap_alloc_new w _) (fun r hr => by rw [List.mem_singleton.1 hr]; rfl) rfl (show 1 ≤ maxLen by unfold maxLen; decide) hil (fun j r x hr hx => ?_)
  match j, hr, hx with
  | 0, hr, hx =>
    injection hr with hr
    injection hx with hx
    subst hr hx
    exact dav_node (h.kd.move (Moves.below hal fun k hk hlt => ⟨trivial, fun e => by injection e with e; omega⟩))
  | j + 1, hr, hx => simp at hr
end Go.Proofs.YtjkiehmjffgnlaaGreatDoor
namespace Go.Proofs.YtjkiehmjffgnlaaGreatDoor
set_option linter.unusedVariables false
set_option linter.unusedSimpArgs false
open Go.RowKit

set_option maxHeartbeats 32000000 in
set_option maxRecDepth 100000 in
set_option linter.unusedSimpArgs false in
theorem all_any (pA : Option Addr) (pc : Nat) (path : List (List UInt8)) (kind size etag : Int) (dA : Option Addr) (dc : Nat) (dead : List NodeT) (lA : Option Addr) (lc : Nat) (ls : List LockT) (now : Int) (w : World) (hp : Strs w (.slice pA path.length pc) path) (hd : Tab 5 (NodeP anyB) w (.slice dA dead.length dc) dead)
    (hl : Locks w (.slice lA ls.length lc) ls) (hok : ∀ l ∈ ls, lockOk l) (hn : ls ≠ [] → -2305843009213693952 ≤ now) (hls : ls.length ≤ 10000000) (hds : dead.length ≤ 100000000) (hs0 : -9223372036854775808 ≤ size) (hs1 : size ≤ 9223372036854775807) (he0 : -9223372036854775808 ≤ etag) (he1 : etag ≤ 9223372036854775807) (hE : MEnv w) :
    Calls Tryz.prog 31 #[.slice pA path.length pc, .agg #[.int .i64 kind, .int .i64 size, .int .i64 etag], .slice dA dead.length dc, .slice lA ls.length lc, .int .i64 now] w (AllP kind size etag (countC now path ls) dead w) := by
  obtain ⟨E, hEE⟩ : ∃ E, E = AllP kind size etag (countC now path ls) dead w := ⟨_, rfl⟩
  rw [← hEE]
  have HEE := Lib.hid hEE
  have HP := Lib.hid hp
  have HD := Lib.hid hd
  have HDi := Lib.hid (fun (w' : World) (h : Below w.heap.size w w') => disc_any lA lc ls pA pc path now w' (Tab.below hl h (Nat.le_refl _) fun cs l ⟨A, c, h1, h2⟩ => ⟨A, c, h1, h2.below h (Nat.le_refl _)⟩) (hp.below h (Nat.le_refl _)) hok hn hls (hE.below h))
  have HE := Lib.hid hE
  have HI0 := Lib.hid (fun (w' : World) (h : Below w.heap.size w w') => mitoa_any size w' hs0 hs1 (hE.below h))
  have HI1 := Lib.hid (fun (w' : World) (h : Below w.heap.size w w') => lfmt_any etag w' he0 he1 (hE.below h))
  obtain ⟨D0, hD0⟩ : ∃ D, D = Lib.itoa size := ⟨_, rfl⟩
  obtain ⟨D1, hD1⟩ : ∃ D, D = Lib.itoa etag := ⟨_, rfl⟩
  have hl0 : D0.length ≤ 21 := by rw [hD0]; exact Lib.itoa_length_le _ hs0 hs1
  have hl1 : D1.length ≤ 21 := by rw [hD1]; exact Lib.itoa_length_le _ he0 he1
  have hq1 : ¬ 9223372036854775807 < 1 + D1.length := by omega
  have hq2 : ¬ 9223372036854775807 < D1.length + 1 + 1 := by omega
  have HEt := Lib.hid (show etagT size etag = [davN [103, 101, 116, 99, 111, 110, 116, 101, 110, 116, 108, 101, 110, 103, 116, 104] [textN D0], davN [103, 101, 116, 101, 116, 97, 103] [textN (34 :: (D1 ++ [34]))]] by rw [hD0, hD1]; rfl)
  rw [← hD0] at HI0
  rw [← hD1] at HI1
  obtain ⟨hb3, hc0, hc1, hc2⟩ := three_allocL w (.cells #[.int .i64 kind, .int .i64 size, .int .i64 etag] 33 (0, 0)) (.cells #[.string ⟨#[]⟩, .string ⟨#[68, 65, 86, 58]⟩, .string ⟨#[114, 101, 115, 111, 117, 114, 99, 101, 116, 121, 112, 101]⟩, .slice none 0 0, .slice none 0 0] 46 (0, 0)) (.cells #[.string ⟨#[]⟩, .string ⟨#[68, 65, 86, 58]⟩, .string ⟨#[114, 101, 115, 111, 117, 114, 99, 101, 116, 121, 112, 101]⟩, .slice none 0 0, .slice none 0 0] 46 (0, 0))
  have HK0 := Lib.hid (show KdS w kind size etag (w.heap.size + 1 + 1) none 0 0 [] _ from ⟨hc0, hc2, TabP.nil _ _ _ _, hb3⟩)
  clear hEE hp hd hl hok hn hE hs0 hs1 he0 he1 hD0 hD1 hb3 hc0 hc1 hc2
  go_enter Tryz.func31, Tryz.ntmps31
  go_wp2_with fail
  refine (ldav_ex _ _ _ _ _).mono ?_
  rintro e w2 ⟨rfl, rfl⟩
  go_upto_if 16 with (fail)
  generalize ((w.alloc (.cells #[.int .i64 kind, .int .i64 size, .int .i64 etag] 33 (0, 0))).alloc (.cells #[.string ⟨#[]⟩, .string ⟨#[68, 65, 86, 58]⟩, .string ⟨#[114, 101, 115, 111, 117, 114, 99, 101, 116, 121, 112, 101]⟩, .slice none 0 0, .slice none 0 0] 46 (0, 0))).alloc (.cells #[.string ⟨#[]⟩, .string ⟨#[68, 65, 86, 58]⟩, .string ⟨#[114, 101, 115, 111, 117, 114, 99, 101, 116, 121, 112, 101]⟩, .slice none 0 0, .slice none 0 0] 46 (0, 0)) = W0 at *
  obtain ⟨q, hq⟩ : ∃ q, q = w.heap.size + 1 + 1 := ⟨_, rfl⟩
  rw [← hq] at HK0 ⊢
  have HQ := Lib.hid hq
  clear hq
  obtain ⟨qi, hqi⟩ : ∃ qi, qi = w.heap.size := ⟨_, rfl⟩
  rw [← hqi]
  have HQi := Lib.hid hqi
  clear hqi
  have y := HK0.out.at_
  have y4 := xat y 4
  have z4 : W0.frozen? ⟨q, 4, none⟩ = false := by simp [World.frozen?, y]
  have hql := xlt y
  go_cut [] (fun wc => ∃ (kA : Option Addr) (m kc : Nat) (kd : List NodeT), davN [114, 101, 115, 111, 117, 114, 99, 101, 116, 121, 112, 101] kd = kindT kind ∧ Hid (KdS w kind size etag q kA m kc kd wc))
  case first =>
    by_cases hk2 : kind = 2
    · subst hk2
      have hT := two_alloc (W0.setCell ⟨q, 4, none⟩ (.slice (some ⟨W0.heap.size + 1, 0, none⟩) 1 1)) (.cells #[.string ⟨#[]⟩, .string ⟨#[68, 65, 86, 58]⟩, .string ⟨#[99, 111, 108, 108, 101, 99, 116, 105, 111, 110]⟩, .slice none 0 0, .slice none 0 0] 46 (0, 0)) (.cells #[.string ⟨#[]⟩, .string ⟨#[68, 65, 86, 58]⟩, .string ⟨#[99, 111, 108, 108, 101, 99, 116, 105, 111, 110]⟩, .slice none 0 0, .slice none 0 0] 46 (0, 0))
      have hT1 := heap_setCell_same W0 q 4 _ _ (.slice (some ⟨W0.heap.size + 1, 0, none⟩) 1 1) y
      have hT2 : ((W0.setCell ⟨q, 4, none⟩ (.slice (some ⟨W0.heap.size + 1, 0, none⟩) 1 1))).heap.size = W0.heap.size := World.size_setCell ..
      have HF := Lib.hid (show KdS w 2 size etag q (some ⟨W0.heap.size + 1, 0, none⟩) 1 1 [davN [99, 111, 108, 108, 101, 99, 116, 105, 111, 110] []] (((W0.setCell ⟨q, 4, none⟩ (.slice (some ⟨W0.heap.size + 1, 0, none⟩) 1 1)).alloc (.cells #[.string ⟨#[]⟩, .string ⟨#[68, 65, 86, 58]⟩, .string ⟨#[99, 111, 108, 108, 101, 99, 116, 105, 111, 110]⟩, .slice none 0 0, .slice none 0 0] 46 (0, 0))).alloc (.cells #[.string ⟨#[]⟩, .string ⟨#[68, 65, 86, 58]⟩, .string ⟨#[99, 111, 108, 108, 101, 99, 116, 105, 111, 110]⟩, .slice none 0 0, .slice none 0 0] 46 (0, 0))) from by
        obtain ⟨hb, h0, h1⟩ := hT
        rw [hT2] at hb h1
        have hqw : w.heap.size < q := by have := HQ.out; omega
        have hin := (heap_setCell_other W0 ⟨q, 4, none⟩ w.heap.size (.slice (some ⟨W0.heap.size + 1, 0, none⟩) 1 1) (by show w.heap.size ≠ q; omega)).trans HK0.out.info
        have hlo := HK0.out.lo.setCell (p := ⟨q, 4, none⟩) (by show w.heap.size ≤ q; omega) (.slice (some ⟨W0.heap.size + 1, 0, none⟩) 1 1)
        refine ⟨(hb.block _ (by omega)).trans hin, (hb.block _ hql).trans hT1, ?_, hlo.trans (hb.mono HK0.out.lo.size)⟩
        exact nodes_lit1 (r := [.string ⟨#[]⟩, .string ⟨#[68, 65, 86, 58]⟩, .string ⟨#[99, 111, 108, 108, 101, 99, 116, 105, 111, 110]⟩, .slice none 0 0, .slice none 0 0]) h1 (dav_node (TabP.nil _ _ _ _)) (by have := HK0.out.lo.size; omega))
      clear hT hT1 hT2
      go_wp2_with fail
      refine (ldav_ex _ _ _ _ _).mono ?_
      rintro e w4 ⟨rfl, rfl⟩
      go_wp2
      go_meet
      exact ⟨_, _, _, [davN [99, 111, 108, 108, 101, 99, 116, 105, 111, 110] []], rfl, HF⟩
    · go_wp2
      go_meet
      exact ⟨_, _, _, [], by unfold kindT; rw [if_neg hk2], HK0⟩
  case rest =>
  obtain ⟨kA, m, kc, kd, hkd, HK⟩ := hcut
  clear HK0 y y4 z4 hql
  have y := HK.out.at_
  have y0 := xat y 0
  have y1 := xat y 1
  have y2 := xat y 2
  have y3 := xat y 3
  have y4 := xat y 4
  have u := HK.out.info
  have u0 := xat u 0
  rw [← HQi.out] at u0
  simp only [List.getElem?_toArray, List.getElem?_cons_zero, List.getElem?_cons_succ] at y0 y1 y2 y3 y4 u0
  have hul : qi < wc.heap.size := by rw [HQi.out]; exact xlt u
  have HS := Lib.hid (HK.out.start hkd)
  have HKd := Lib.hid hkd
  clear hkd y u
  go_upto_if 24 with (fail)
  generalize wc.alloc (.cells #[.string ⟨#[]⟩, .string ⟨#[68, 65, 86, 58]⟩, .string ⟨#[114, 101, 115, 111, 117, 114, 99, 101, 116, 121, 112, 101]⟩, .slice none 0 0, .slice kA m kc] 46 (0, 0)) = wd at *
  obtain ⟨rb, hrb⟩ : ∃ rb, rb = wc.heap.size := ⟨_, rfl⟩
  rw [← hrb] at HS ⊢
  clear hrb y0 y1 y2 y3 y4 u0 hul HK
  have u := HS.out.info
  rw [← HQi.out] at u
  have u1 := xat u 1
  have u2 := xat u 2
  simp only [List.getElem?_toArray, List.getElem?_cons_zero, List.getElem?_cons_succ] at u1 u2
  have hul := xlt u
  clear u
  go_cut [12] (fun v we => Hid (AllS w kind size etag v (kindT kind :: if kind = 1 then etagT size etag else []) we))
  case first =>
    by_cases hk1 : kind = 1
    · have HEk := Lib.hid (show (kindT kind :: if kind = 1 then etagT size etag else []) = [kindT kind] ++ [davN [103, 101, 116, 99, 111, 110, 116, 101, 110, 116, 108, 101, 110, 103, 116, 104] [textN D0], davN [103, 101, 116, 101, 116, 97, 103] [textN (34 :: (D1 ++ [34]))]] by rw [if_pos hk1, HEt.out]; rfl)
      subst hk1
      have hd0 := below_draws (Below.refl wd.heap.size wd) 1
      have hS0 : wd.drew.cell? ⟨qi, 1, none⟩ = some (.int .i64 size) ∧ wd.drew.cell? ⟨qi, 2, none⟩ = some (.int .i64 etag) ∧ Below (qi + 1) wd wd.drew := ⟨u1, u2, below_draws (Below.refl _ _) 1⟩
      have Hk := Lib.hid (fun (wb : World) (hb : Below wd.heap.size wd wb) => (show wb.cell? ⟨qi, 1, none⟩ = some (.int .i64 size) ∧ wb.cell? ⟨qi, 2, none⟩ = some (.int .i64 etag) ∧ Below (qi + 1) wd wb from ⟨(hb.cell (p := ⟨qi, 1, none⟩) hul).trans u1, (hb.cell (p := ⟨qi, 2, none⟩) hul).trans u2, hb.mono hul⟩))
      have HLo := Lib.hid (fun (wb : World) (hb : Below wd.heap.size wd wb) => (show Below w.heap.size w wb from HS.out.lo.trans (hb.mono HS.out.lo.size)))
      have HTw := Lib.hid (fun (wb : World) (hb : Below wd.heap.size wd wb) (a0 a1 a2 a3 a4 b0 b1 b2 b3 b4 : Value) (x y : NodeT) (hx : NodeP (fun k => wd.heap.size ≤ k) wb [a0, a1, a2, a3, a4] x) (hy : NodeP (fun k => wd.heap.size ≤ k) wb [b0, b1, b2, b3, b4] y) => (show ∃ v' w2, _ ∧ AllS w 1 size etag v' ([kindT 1] ++ [x, y]) w2 ∧ (w2.cell? ⟨qi, 1, none⟩ = some (.int .i64 size) ∧ w2.cell? ⟨qi, 2, none⟩ = some (.int .i64 etag) ∧ Below (qi + 1) wd w2) from by
        obtain ⟨v', w2, hrun, hS, hbb⟩ := HS.out.two hb hx hy (by simp)
        have hi := hS.info
        rw [← HQi.out] at hi
        exact ⟨v', w2, hrun, hS, xat hi 1, xat hi 2, by rw [HQi.out]; exact hbb⟩))
      go_upto_region 6 with (fail)
      go_region_held3 (fun w' => w'.cell? ⟨qi, 1, none⟩ = some (.int .i64 size) ∧ w'.cell? ⟨qi, 2, none⟩ = some (.int .i64 etag) ∧ Below (qi + 1) wd w')
        (first | with_reducible exact hs26 | with_reducible exact hs25 | with_reducible exact hs24 | with_reducible exact hs23 | with_reducible exact hs22 | with_reducible exact hs21 | with_reducible exact hS0)
        (first
          | (have _h := hs25; refine step_app_ex rfl (.tmp 25) (.tmp 36) rfl (by rfl) (by rfl) ?_; obtain ⟨v26, w26, hrun, hS26, hs26⟩ := HTw.out w24 hr24 a0 a1 a2 a3 a4 b0 b1 b2 b3 b4 _ _ hna hnb; refine ⟨_, _, hrun, ?_⟩; have HS26 := Lib.hid hS26; clear hrun hS26)
          | (have _h := hs23; go_at_call 44; refine (ltext_any [103, 101, 116, 101, 116, 97, 103] _ w23).mono ?_; rintro e w24 hm24; obtain ⟨b0, b1, b2, b3, b4, rfl, hnb, hb24, h1b⟩ := hm24.vals; have hr24 : Below wd.heap.size wd w24 := hr23.trans (hb24.mono hr23.size); have hs24 := Hk.out _ hr24; have hs25 := Hk.out (w24.alloc (.cells #[a0, a1, a2, a3, a4, b0, b1, b2, b3, b4] 46 (0, 0))) (hr24.alloc hr24.size _); replace hna := hna.move (Q := fun k => wd.heap.size ≤ k) (Moves.below hb24 fun k hk _ => hk); replace hnb := hnb.move (Q := fun k => wd.heap.size ≤ k) (Moves.same _ fun k hk _ => Nat.le_trans hr23.size hk))
          | (have _h := hs22; go_at_call 46; refine (HI1.out w22 (HLo.out w22 hr22)).mono ?_; rintro e w23 ⟨rfl, hb23⟩; have hr23 : Below wd.heap.size wd w23 := hr22.trans (hb23.mono hr22.size); have hs23 := Hk.out _ hr23; replace hna := hna.move (Q := fun k => wd.heap.size ≤ k) (Moves.below hb23 fun k hk _ => hk))
          | (have _h := hs21; go_at_call 44; refine (ltext_any [103, 101, 116, 99, 111, 110, 116, 101, 110, 116, 108, 101, 110, 103, 116, 104] D0 w21).mono ?_; rintro e w22 hm22; obtain ⟨a0, a1, a2, a3, a4, rfl, hna, hb22, h1a⟩ := hm22.vals; have hr22 : Below wd.heap.size wd w22 := hr21.trans (hb22.mono hr21.size); have hs22 := Hk.out _ hr22; replace hna := hna.move (Q := fun k => wd.heap.size ≤ k) (Moves.same _ fun k hk _ => Nat.le_trans hr21.size hk))
          | (go_at_call 45; refine (HI0.out _ (HLo.out _ hd0)).mono ?_; rintro e w21 ⟨rfl, hb21⟩; have hr21 : Below wd.heap.size wd w21 := hd0.trans hb21; have hs21 := Hk.out _ hr21))
      all_goals
        go_wp2
        go_meet
        rw [HEk.out]
        exact HS26
    · have HEk := Lib.hid (show (kindT kind :: if kind = 1 then etagT size etag else []) = [kindT kind] by rw [if_neg hk1])
      go_wp2
      go_meet
      rw [HEk.out]
      exact HS
  case rest =>
  have HSe := hcut
  clear hcut
  clear u1 u2 hul HS
  obtain ⟨ks, hks⟩ : ∃ ks, ks = (kindT kind :: if kind = 1 then etagT size etag else []) := ⟨_, rfl⟩
  rw [← hks] at HSe
  have hkl : ks.length ≤ 3 := by rw [hks]; split <;> simp [etagT]
  have HKs := Lib.hid hks
  clear hks
  go_wp2_with fail
  refine (lscope_any true wc).mono ?_
  rintro e w31 ⟨v1, d1, rfl, hx1, hk1, hn1, hb31⟩
  obtain ⟨A1, c1, hv1, -, -, -⟩ := hk1.slice
  subst hv1
  have HN1 := Lib.hid (show NodesP (fun k => wc.heap.size ≤ k) w31 (.slice A1 d1.length c1) (scopeN true) from hx1 ▸ hk1.nodesB (fun p hp => (hn1 p hp).move (Moves.same _ fun k hk _ => hk.1)) (fun _ h => h))
  have HB31 := Lib.hid hb31
  clear hx1 hk1 hn1 hb31
  go_wp2_with fail
  refine (ldav_ex _ _ _ _ _).mono ?_
  rintro e w32 ⟨rfl, hw32⟩
  obtain ⟨hb32, hnA⟩ := dav_over [108, 111, 99, 107, 101, 110, 116, 114, 121] HN1.out hw32
  have HB32 := Lib.hid (HB31.out.trans (hb32.mono HB31.out.size))
  have HA := Lib.hid hnA
  clear hw32 hb32 hnA HN1
  go_wp2_with fail
  refine (lscope_any false w32).mono ?_
  rintro e w33 ⟨v2, d2, rfl, hx2, hk2, hn2, hb33⟩
  obtain ⟨A2, c2, hv2, -, -, -⟩ := hk2.slice
  subst hv2
  have HN2 := Lib.hid (show NodesP (fun k => wc.heap.size ≤ k) w33 (.slice A2 d2.length c2) (scopeN false) from hx2 ▸ hk2.nodesB (fun p hp => (hn2 p hp).move (Moves.same _ fun k hk _ => Nat.le_trans HB32.out.size hk.1)) (fun _ h => Nat.le_trans HB32.out.size h))
  have HB33 := Lib.hid (HB32.out.trans (hb33.mono HB32.out.size))
  have HA2 := Lib.hid (HA.out.move (Q := fun k => wc.heap.size ≤ k) (Moves.below hb33 fun k hk _ => hk))
  clear hx2 hk2 hn2 hb33 HA HB31
  go_wp2_with fail
  refine (ldav_ex _ _ _ _ _).mono ?_
  rintro e w34 ⟨rfl, hw34⟩
  obtain ⟨hb34, hnB⟩ := dav_over [108, 111, 99, 107, 101, 110, 116, 114, 121] HN2.out hw34
  have HB34 := Lib.hid (HB33.out.trans (hb34.mono HB33.out.size))
  have HA3 := Lib.hid (HA2.out.move (Q := fun k => wc.heap.size ≤ k) (Moves.below hb34 fun k hk _ => hk))
  have HBn := Lib.hid hnB
  clear hw34 hb34 hnB HN2 HA2 HB33 HB32
  go_wp2_with fail
  refine (ldav_ex _ _ _ _ _).mono ?_
  rintro e w36 ⟨rfl, hw36⟩
  obtain ⟨hb36, hnS⟩ := dav_two [115, 117, 112, 112, 111, 114, 116, 101, 100, 108, 111, 99, 107] HB34.out.size HA3.out HBn.out hw36
  have HB36 := Lib.hid (HB34.out.trans (hb36.mono HB34.out.size))
  have HSu := Lib.hid hnS
  clear hw36 hb36 hnS HA3 HBn HB34
  go_wp2_with fail
  refine (HDi.out w36 (HSe.out.lo.trans (HB36.out.mono HSe.out.lo.size))).mono ?_
  rintro e w37 ⟨f0, f1, f2, f3, f4, K, rfl, hKn, hnD, hb37, h1D⟩
  have hr37 := HB36.out.trans (hb37.mono HB36.out.size)
  obtain ⟨v38, w38, run38, S38, -⟩ := HSe.out.two hr37 (HSu.out.move (Q := fun k => wc.heap.size ≤ k) (Moves.below hb37 fun k hk _ => hk)) (hnD.move (Q := fun k => wc.heap.size ≤ k) (Moves.same _ fun k hk _ => Nat.le_trans HB36.out.size hk)) (by omega)
  obtain ⟨v39, w39, run39, S39, -⟩ := S38.app (A := dA) (cap := dc) (ys := dead) (TabP.move (R' := NodeP (fun k => some k ≠ v38.ownBlock)) (P := anyB) (Q := anyB) ⟨HD.out, fun _ _ _ => trivial⟩ (Moves.below S38.lo fun _ _ _ => trivial) (fun cs x _ hx => hx.move ⟨S38.lo.size, fun k _ hk => ⟨fun e => by have := (S38.row.lt k e.symm).1; omega, S38.lo.block k hk⟩⟩)).1 (by rw [List.length_append]; simp only [List.length_cons, List.length_nil]; omega)
  obtain ⟨d, hdx, hdk, hdn⟩ := S39.done
  have HF := Lib.hid (show AllP kind size etag (countC now path ls) dead w (.returned v39) w39 from ⟨v39, d, K, rfl, hKn, by rw [hdx, HKs.out]; unfold allN; rw [List.cons_append, List.cons_append, List.append_assoc]; rfl, hdk, hdn, S39.lo⟩)
  have HR38 := Lib.hid run38
  have HR39 := Lib.hid run39
  clear hKn hnD hb37 h1D hr37 run38 S38 run39 S39 hdx hdk hdn HDi HSu HB36 HSe HKs hkl
  go_wp2_with (at_builtin; first | refine wpList_app_run (by rfl) _ _ rfl rfl rfl HR38.out ?_ | refine wpList_app_run (by rfl) _ _ rfl rfl rfl HR39.out ?_)
  rw [HEE.out]
  exact HF.out
end Go.Proofs.YtjkiehmjffgnlaaGreatDoor
namespace Go.Proofs.YtjkiehmjffgnlaaGreatDoor
set_option linter.unusedVariables false
set_option linter.unusedSimpArgs false
open Go.RowKit

def bareT (n : NodeT) : NodeT := bareN (keyN n)
theorem bareT_map (d : List NodeD) : (d.map fun p => bareD (keyD p)).map (·.x) = (d.map (·.x)).map bareT := by
  rw [List.map_map, List.map_map]; rfl
def TellP (ps : List NodeT → List NodeT) (kind size etag : Int) (n : Nat) (dead : List NodeT) (w : World) (e : Ending) (w' : World) : Prop :=
  ∃ b K, e = .returned (.slice (some ⟨b, 0, none⟩) 1 1) ∧ K.length = n ∧ PartsP anyB w' (.slice (some ⟨b, 0, none⟩) 1 1) [⟨200, ps (allN kind size etag K dead)⟩] ∧ Below w.heap.size w w'
theorem part_one {w : World} {v : Value} {b : Nat} {l : List NodeT} (h : w.heap[b]? = some (.cells #[.int .i64 200, v] 43 (0, 0))) (hn : NodesP anyB w v l) : PartsP anyB w (.slice (some ⟨b, 0, none⟩) 1 1) [⟨200, l⟩] :=
  many_row (rows := [[.int .i64 200, v]]) (xs := [(⟨200, l⟩ : PartT)]) h (fun r hr => by rw [List.mem_singleton.1 hr]; rfl) rfl (show 1 ≤ maxLen by unfold maxLen; decide) (fun j r x hr hx => by
    match j, hr, hx with
    | 0, hr, hx => injection hr with hr; injection hx with hx; subst hr hx; exact ⟨v, rfl, hn⟩
    | j + 1, hr, hx => simp at hr) trivial
structure SeenP (pA : Option Addr) (pc : Nat) (path : List (List UInt8)) (size etag : Int) (dA : Option Addr) (dc : Nat) (dead : List NodeT) (lA : Option Addr) (lc : Nat) (ls : List LockT) (now : Int) (w : World) : Prop where
  hp : Strs w (.slice pA path.length pc) path
  hd : Tab 5 (NodeP anyB) w (.slice dA dead.length dc) dead
  hl : Locks w (.slice lA ls.length lc) ls
  hok : ∀ l ∈ ls, lockOk l
  hn : ls ≠ [] → -2305843009213693952 ≤ now
  hls : ls.length ≤ 10000000
  hds : dead.length ≤ 100000000
  hs0 : -9223372036854775808 ≤ size
  hs1 : size ≤ 9223372036854775807
  he0 : -9223372036854775808 ≤ etag
  he1 : etag ≤ 9223372036854775807
  hE : MEnv w
section
variable {pA : Option Addr} {pc : Nat} {path : List (List UInt8)} {kind size etag : Int} {dA : Option Addr} {dc : Nat} {dead : List NodeT} {lA : Option Addr} {lc : Nat} {ls : List LockT} {now : Int} {w w' : World}
theorem SeenP.below (h : SeenP pA pc path size etag dA dc dead lA lc ls now w) (hb : Below w.heap.size w w') : SeenP pA pc path size etag dA dc dead lA lc ls now w' :=
  ⟨h.hp.below hb (Nat.le_refl _), Tab.below h.hd hb (Nat.le_refl _) fun cs x hx => hx.under hb, Tab.below h.hl hb (Nat.le_refl _) fun cs l ⟨A, c, h1, h2⟩ => ⟨A, c, h1, h2.below hb (Nat.le_refl _)⟩, h.hok, h.hn, h.hls, h.hds, h.hs0, h.hs1, h.he0, h.he1, h.hE.below hb⟩
theorem SeenP.all (kind : Int) (h : SeenP pA pc path size etag dA dc dead lA lc ls now w) : Calls Tryz.prog 31 #[.slice pA path.length pc, .agg #[.int .i64 kind, .int .i64 size, .int .i64 etag], .slice dA dead.length dc, .slice lA ls.length lc, .int .i64 now] w (AllP kind size etag (countC now path ls) dead w) :=
  all_any pA pc path kind size etag dA dc dead lA lc ls now w h.hp h.hd h.hl h.hok h.hn h.hls h.hds h.hs0 h.hs1 h.he0 h.he1 h.hE
set_option maxHeartbeats 16000000 in
set_option maxRecDepth 100000 in
set_option linter.unusedSimpArgs false in
theorem tell_all (fk : Int) (hk1 : ¬ fk = 1) (hk2 : ¬ fk = 2) (nA : Option Addr) (nn nc : Nat) (kind : Int) (h : SeenP pA pc path size etag dA dc dead lA lc ls now w) : Calls Tryz.prog 13 #[.slice pA path.length pc, .agg #[.int .i64 kind, .int .i64 size, .int .i64 etag], .slice dA dead.length dc, .slice lA ls.length lc, .int .i64 now, .agg #[.int .i64 fk, .slice nA nn nc]] w (TellP id kind size etag (countC now path ls) dead w) := by
  obtain ⟨E, hEE⟩ : ∃ E, E = TellP id kind size etag (countC now path ls) dead w := ⟨_, rfl⟩
  rw [← hEE]
  have HEE := Lib.hid hEE
  obtain ⟨hb, h0, h1⟩ := two_alloc w (.cells #[.int .i64 kind, .int .i64 size, .int .i64 etag] 33 (0, 0)) (.cells #[.int .i64 fk, .slice nA nn nc] 37 (0, 0))
  have HAl := Lib.hid ((h.below hb).all kind)
  have HB := Lib.hid hb
  have H1 := Lib.hid h1
  clear hEE h hb h0 h1
  go_enter Tryz.func13, Tryz.ntmps13
  go_wp2_with fail
  refine HAl.out.mono ?_
  rintro e w5 ⟨v, d, K, rfl, hK, hdx, hk, hn, hb5⟩
  obtain ⟨A, cap, rfl, -, -, -⟩ := hk.slice
  have hq := (hb5.block _ (xlt H1.out)).trans H1.out
  have y0 := xat hq 0
  simp only [List.getElem?_toArray, List.getElem?_cons_zero, List.getElem?_cons_succ] at y0
  have hal : Below w5.heap.size w5 (w5.alloc (.cells #[.int .i64 200, .slice A d.length cap] 43 (0, 0))) := (Below.refl _ _).alloc (Nat.le_refl _) _
  have HF := Lib.hid (show TellP id kind size etag (countC now path ls) dead w (.returned (.slice (some ⟨w5.heap.size, 0, none⟩) 1 1)) (w5.alloc (.cells #[.int .i64 200, .slice A d.length cap] 43 (0, 0))) from
    ⟨_, K, rfl, hK, by rw [← hdx]; exact part_one (heap_alloc_new w5 _) ((hk.nodes (fun p hp => (hn p hp).move (Moves.same _ fun _ _ _ => trivial))).under hal), HB.out.trans ((hb5.mono HB.out.size).trans (hal.mono (Nat.le_trans HB.out.size hb5.size)))⟩)
  clear hK hdx hk hn hb5 hq hal HAl HB H1
  go_wp2
  rw [HEE.out]
  exact HF.out
end
end Go.Proofs.YtjkiehmjffgnlaaGreatDoor
namespace Go.Proofs.YtjkiehmjffgnlaaGreatDoor
set_option linter.unusedVariables false
set_option linter.unusedSimpArgs false
open Go.RowKit

def bareTo (d : List NodeD) (i : Nat) : List NodeD := (d.take i).map (fun p => bareD (keyD p)) ++ d.drop i
theorem bareTo_len (d : List NodeD) (i : Nat) : (bareTo d i).length = d.length := by
  unfold bareTo
  rw [List.length_append, List.length_map, ← List.length_append, List.take_append_drop]
theorem bareTo_at {d : List NodeD} {i : Nat} {p : NodeD} {rest : List NodeD} (h : d.drop i = p :: rest) (hlt : i < d.length) : (bareTo d i)[i]? = some p := by
  unfold bareTo
  have hl : ((d.take i).map fun p => bareD (keyD p)).length = i := by rw [List.length_map, List.length_take]; omega
  rw [List.getElem?_append_right (by omega), hl, Nat.sub_self, h]
  rfl
theorem bareTo_set {d : List NodeD} {i : Nat} {p : NodeD} (h : d[i]? = some p) : (bareTo d i).set i (bareD (keyD p)) = bareTo d (i + 1) := by
  obtain ⟨hlt, hp⟩ := List.getElem?_eq_some_iff.1 h
  unfold bareTo
  have hl : ((d.take i).map fun p => bareD (keyD p)).length = i := by rw [List.length_map, List.length_take]; omega
  rw [List.set_append_right _ _ (by omega), hl, Nat.sub_self, List.drop_eq_getElem_cons hlt, List.set_cons_zero, take_at h, List.map_append, List.append_assoc]
  rfl
structure TbS (w0 : World) (B q g cap : Nat) (fk : Int) (nv : Value) (d : List NodeD) (i : Nat) (w : World) : Prop where
  row : KRow B (.slice (some ⟨g, 0, none⟩) d.length cap) (bareTo d i) w
  hang : ∀ p ∈ bareTo d i, NodeP (fun k => some k ≠ some g) w p.cells p.x
  find : w.heap[q]? = some (.cells #[.int .i64 fk, nv] 37 (0, 0))
  lo : Below w0.heap.size w0 w
  hw : w0.heap.size ≤ g
  hq : q ≠ g
theorem TbS.under {w0 : World} {B q g cap : Nat} {fk : Int} {nv : Value} {d : List NodeD} {i : Nat} {w w' : World} (h : TbS w0 B q g cap fk nv d i w) (hb : Below w.heap.size w w') : TbS w0 B q g cap fk nv d i w' :=
  ⟨h.row.below hb, fun p hp => (h.hang p hp).move (Moves.below hb fun _ hk _ => hk), (hb.block _ (xlt h.find)).trans h.find, h.lo.trans (hb.mono h.lo.size), h.hw, h.hq⟩
theorem TbS.store {w0 : World} {B q g cap : Nat} {fk : Int} {nv : Value} {d : List NodeD} {i : Nat} {w : World} (h : TbS w0 B q g cap fk nv d i w) {p : NodeD} (hp : d[i]? = some p) {f0 f1 f2 f3 f4 : Value} (hf : (bareD (keyD p)).cells = [f0, f1, f2, f3, f4]) :
    ∃ W1 W2 W3 W4 W5, (store ⟨g, i * 5, none⟩ f0).run Tryz.prog w = .ok () W1 ∧ (store ⟨g, i * 5 + 1, none⟩ f1).run Tryz.prog W1 = .ok () W2 ∧ (store ⟨g, i * 5 + 2, none⟩ f2).run Tryz.prog W2 = .ok () W3 ∧ (store ⟨g, i * 5 + 3, none⟩ f3).run Tryz.prog W3 = .ok () W4 ∧ (store ⟨g, i * 5 + 4, none⟩ f4).run Tryz.prog W4 = .ok () W5 ∧ TbS w0 B q g cap fk nv d (i + 1) W5 := by
  have hlt := (List.getElem?_eq_some_iff.1 hp).1
  obtain ⟨V1, V2, V3, V4, V5, s0, s1, s2, s3, s4, ho9, hg9, -⟩ := stores_five Tryz.prog h.row (g := g) rfl (j := i) (by rw [List.length_map, bareTo_len]; exact hlt) f0 f1 f2 f3 f4 (fun u hu => encD.one (bareD (keyD p)) u (by show u ∈ (bareD (keyD p)).cells; rw [hf]; exact hu))
  have hr := RGr.of hg9 (.inl rfl)
  have hgw := h.hw
  have hmv : ∀ {cs x}, NodeP (fun k => some k ≠ some g) w cs x → NodeP (fun k => some k ≠ some g) V5 cs x := fun hn => hn.move ⟨hg9.size, fun k hk hl => ⟨hk, hg9.block k hl hk⟩⟩
  refine ⟨V1, V2, V3, V4, V5, s0, s1, s2, s3, s4, ?_, fun x hx => ?_, (hg9.block q (xlt h.find) (fun e => h.hq (by injection e))).trans h.find, h.lo.trans (hr.low (fun k e => by injection e with e; omega) h.lo.size), h.hw, h.hq⟩
  · have e : (bareTo d (i + 1)).map NodeD.cells = ((bareTo d i).map NodeD.cells).set i [f0, f1, f2, f3, f4] := by rw [← bareTo_set hp, List.map_set, hf]
    unfold KRow
    rw [e]
    exact ho9
  · rw [← bareTo_set hp] at hx
    rcases List.mem_or_eq_of_mem_set hx with hx | rfl
    · exact hmv (h.hang x hx)
    · exact bare_node _ _ _
section
variable {pA : Option Addr} {pc : Nat} {path : List (List UInt8)} {kind size etag : Int} {dA : Option Addr} {dc : Nat} {dead : List NodeT} {lA : Option Addr} {lc : Nat} {ls : List LockT} {now : Int} {w w' : World}
set_option maxHeartbeats 16000000 in
set_option maxRecDepth 100000 in
set_option linter.unusedSimpArgs false in
theorem tell_names (nA : Option Addr) (nn nc : Nat) (kind : Int) (h : SeenP pA pc path size etag dA dc dead lA lc ls now w) : Calls Tryz.prog 13 #[.slice pA path.length pc, .agg #[.int .i64 kind, .int .i64 size, .int .i64 etag], .slice dA dead.length dc, .slice lA ls.length lc, .int .i64 now, .agg #[.int .i64 1, .slice nA nn nc]] w (TellP (·.map bareT) kind size etag (countC now path ls) dead w) := by
  obtain ⟨E, hEE⟩ : ∃ E, E = TellP (·.map bareT) kind size etag (countC now path ls) dead w := ⟨_, rfl⟩
  rw [← hEE]
  have HEE := Lib.hid hEE
  obtain ⟨hb, h0, h1⟩ := two_alloc w (.cells #[.int .i64 kind, .int .i64 size, .int .i64 etag] 33 (0, 0)) (.cells #[.int .i64 1, .slice nA nn nc] 37 (0, 0))
  have HAl := Lib.hid ((h.below hb).all kind)
  have HB := Lib.hid hb
  have H1 := Lib.hid h1
  clear hEE h hb h0 h1
  go_enter Tryz.func13, Tryz.ntmps13
  go_wp2_with fail
  refine HAl.out.mono ?_
  rintro e w5 ⟨v, d, K, rfl, hK, hdx, hk, hn, hb5⟩
  rcases hk.form with ⟨-, h0⟩ | ⟨g, cap, rfl, hkr⟩
  · exfalso
    rw [h0] at hdx
    unfold allN at hdx
    cases hdx
  obtain ⟨hc1, hc2⟩ := hkr.len
  unfold maxLen at hc2
  have hgl := hk.lt g rfl
  have HSt := Lib.hid (show TbS w (w.heap.size + 1) (w.heap.size + 1) g cap 1 (.slice nA nn nc) d 0 w5 from
    ⟨by show KRow _ _ ([] ++ d) _; exact hk.mono (by have := xlt H1.out; omega), fun p hp => hn p (by simpa [bareTo] using hp), (hb5.block _ (xlt H1.out)).trans H1.out, HB.out.trans (hb5.mono HB.out.size), by have := xlt H1.out; omega, by have := xlt H1.out; omega⟩)
  have HK := Lib.hid hK
  have HDx := Lib.hid hdx
  clear hK hdx hk hkr hn hb5 hgl HAl HB
  obtain ⟨q, hq⟩ : ∃ q, q = w.heap.size + 1 := ⟨_, rfl⟩
  have hq0 := HSt.out.find
  rw [← hq] at hq0 HSt ⊢
  have y0 := xat hq0 0
  simp only [List.getElem?_toArray, List.getElem?_cons_zero, List.getElem?_cons_succ] at y0
  clear hq0 H1 hq
  go_wp2_with fail
  clear y0
  go_loopg [32] d.length (fun gk v32 wr => ∃ i : Nat, i + gk = d.length ∧ v32 = .int .i64 i ∧ Hid (TbS w q q g cap 1 (.slice nA nn nc) d i wr))
  case atStart => exact ⟨0, by omega, rfl, HSt⟩
  case round =>
    obtain ⟨i, hig, rfl, HS⟩ := hrel
    rcases hd : d.drop i with _ | ⟨p, rest⟩
    · have hi2 : i = d.length := by have := drop_nil hd; omega
      subst hi2
      have k1 : ¬ ((d.length : Int) < d.length) := by omega
      have hq0 := HS.out.find
      have y0 := xat hq0 0
      simp only [List.getElem?_toArray, List.getElem?_cons_zero, List.getElem?_cons_succ] at y0
      have hbe : bareTo d d.length = d.map fun p => bareD (keyD p) := by unfold bareTo; rw [List.take_length, List.drop_length, List.append_nil]
      have hal : Below wr.heap.size wr (wr.alloc (.cells #[.int .i64 200, .slice (some ⟨g, 0, none⟩) d.length cap] 43 (0, 0))) := (Below.refl _ _).alloc (Nat.le_refl _) _
      have HF := Lib.hid (show TellP (·.map bareT) kind size etag (countC now path ls) dead w (.returned (.slice (some ⟨wr.heap.size, 0, none⟩) 1 1)) (wr.alloc (.cells #[.int .i64 200, .slice (some ⟨g, 0, none⟩) d.length cap] 43 (0, 0))) from
        ⟨_, K, rfl, HK.out, by
          have hN := HS.out.row.nodes (fun p hp => (HS.out.hang p hp).move (Moves.same _ fun _ _ _ => trivial))
          rw [hbe, bareT_map, HDx.out] at hN
          exact part_one (heap_alloc_new wr _) (hN.under hal), HS.out.lo.trans (hal.mono HS.out.lo.size)⟩)
      clear hq0 hbe hal hd HS
      go_wp2
      rw [HEE.out]
      exact HF.out
    · obtain ⟨hlt, hx, hr⟩ := drop_consA hd
      have hrj : ((bareTo d i).map NodeD.cells)[i]? = some p.cells := by rw [List.getElem?_map, bareTo_at hd hlt]; rfl
      have d0 : wr.cell? ⟨g, i * 5, none⟩ = some (.string ⟨p.x.text.toArray⟩) := OwnT.cellAt HS.out.row rfl hrj (k := 0) rfl
      have d1 : wr.cell? ⟨g, i * 5 + 1, none⟩ = some (.string ⟨p.x.space.toArray⟩) := OwnT.cellAt HS.out.row rfl hrj (k := 1) rfl
      have d2 : wr.cell? ⟨g, i * 5 + 2, none⟩ = some (.string ⟨p.x.name.toArray⟩) := OwnT.cellAt HS.out.row rfl hrj (k := 2) rfl
      have d3 : wr.cell? ⟨g, i * 5 + 3, none⟩ = some (.slice p.aA p.am p.ac) := OwnT.cellAt HS.out.row rfl hrj (k := 3) rfl
      have d4 : wr.cell? ⟨g, i * 5 + 4, none⟩ = some (.slice p.kA p.km p.kc) := OwnT.cellAt HS.out.row rfl hrj (k := 4) rfl
      have k1 : (i : Int) < d.length := by omega
      have k2 : (0 : Int) ≤ i := by omega
      have HX := Lib.hid hx
      have HNm := Lib.hid (fun w => name_any p.x.text p.x.space p.x.name (.slice p.aA p.am p.ac) (.slice p.kA p.km p.kc) w)
      obtain ⟨f0, f1, f2, f3, f4, hfc, hbare⟩ : ∃ f0 f1 f2 f3 f4, (bareD (keyD p)).cells = [f0, f1, f2, f3, f4] ∧ ∀ w, Calls Tryz.prog 32 #[.agg #[.string ⟨p.x.space.toArray⟩, .string ⟨p.x.name.toArray⟩]] w (RetW (.agg #[f0, f1, f2, f3, f4]) w) := ⟨_, _, _, _, _, rfl, bare_any p.x.space p.x.name⟩
      have HFc := Lib.hid hfc
      have HBr := Lib.hid hbare
      have hba : Below wr.heap.size wr (wr.alloc (.cells #[.string ⟨p.x.text.toArray⟩, .string ⟨p.x.space.toArray⟩, .string ⟨p.x.name.toArray⟩, .slice p.aA p.am p.ac, .slice p.kA p.km p.kc] 46 (0, 0))) := (Below.refl _ _).alloc (Nat.le_refl _) _
      have HS1 := Lib.hid (HS.out.under hba)
      clear hd hr hx hrj hfc hbare hba
      go_wp2_with fail
      refine (HNm.out _).mono ?_
      rintro e w6 ⟨rfl, q6, os6, he6⟩
      have HS6 := Lib.hid (HS1.out.under (he6 ▸ below_grown _ q6 os6))
      clear he6
      go_wp2_with fail
      refine (HBr.out _).mono ?_
      rintro e w7 ⟨rfl, q7, os7, he7⟩
      have HS7 := Lib.hid (HS6.out.under (he7 ▸ below_grown _ q7 os7))
      clear he7 d0 d1 d2 d3 d4
      obtain ⟨W1, W2, W3, W4, W5, s0, s1, s2, s3, s4, hS8⟩ := HS7.out.store HX.out HFc.out
      have HS8 := Lib.hid hS8
      clear hS8
      go_wp2
      go_roundg (gk - 1)
      case measure => omega
      case rel => exact ⟨i + 1, by omega, by go_num, HS8⟩
end
end Go.Proofs.YtjkiehmjffgnlaaGreatDoor
namespace Go.Proofs.YtjkiehmjffgnlaaGreatDoor
set_option linter.unusedVariables false
set_option linter.unusedSimpArgs false
open Go.RowKit

theorem part_app {B pb : Nat} {code : Int} {A : Option Addr} {cap : Nat} {d : List NodeD} {w w1 : World} (h : KRow B (.slice A d.length cap) d w) (hp : w.heap[pb]? = some (.cells #[.int .i64 code, .slice A d.length cap] 43 (0, 0))) (hB : B ≤ w.heap.size) (hpv : some pb ≠ (Value.slice A d.length cap).ownBlock) (hs : d.length ≤ 1000000000) (hb : Below w.heap.size w w1) (p : NodeD) {f0 f1 f2 f3 f4 : Value} (hf : p.cells = [f0, f1, f2, f3, f4]) :
    ∃ g cp w10, (Builtin.append_ #[22, 22] 22 #[.slice A d.length cap, .slice (some ⟨w1.heap.size, 0, none⟩) 1 1]).run Tryz.prog (w1.alloc (.cells #[f0, f1, f2, f3, f4] 46 (0, 0))) = .ok (.slice (some ⟨g, 0, none⟩) (d.length + 1) cp) w10 ∧
      w10.cell? ⟨pb, 1, none⟩ = some (.slice A d.length cap) ∧ w10.frozen? ⟨pb, 1, none⟩ = false ∧ AddP B pb code (.slice A d.length cap) (d ++ [p]) w (.returned (.tuple #[])) (w10.setCell ⟨pb, 1, none⟩ (.slice (some ⟨g, 0, none⟩) (d.length + 1) cp)) := by
  have hal : Below w1.heap.size w1 (w1.alloc (.cells #[f0, f1, f2, f3, f4] 46 (0, 0))) := (Below.refl _ _).alloc (Nat.le_refl _) _
  have hqn := heap_alloc_new w1 (.cells #[f0, f1, f2, f3, f4] 46 (0, 0))
  have hb1 := hb.trans (hal.mono hb.size)
  obtain ⟨v1, w10, hrun, o1, bb1, g1, p1⟩ := run_appT elemN 22 (h.below hb1) (some ⟨w1.heap.size, 0, none⟩) 1 1 (news := [p.cells]) rfl (Nat.le_refl _) (fun r hr => by rw [List.mem_singleton.1 hr]; rfl) (fun _ => ⟨_, 0, rfl, fun j r hr c u hu => by
    match j, hr with
    | 0, hr =>
      injection hr with hr
      subst hr
      rw [hf] at hu
      rw [Nat.zero_mul, Nat.zero_add, Nat.zero_add]
      simp only [World.cell?, hqn]
      rw [← hu]
      simp
    | j + 1, hr => simp at hr⟩) (fun r hr u hu => by rw [List.mem_singleton.1 hr] at hu; exact encD.one _ u hu) (by rw [List.length_map]; omega) (Nat.le_trans hB hb1.size)
  have hk : KRow B v1 (d ++ [p]) w10 := by unfold KRow; rw [List.map_append]; exact o1
  have hr : RGr (Value.slice A d.length cap).ownBlock v1.ownBlock w w10 := (RGr.under hb1).trans (RGr.of g1 (p1.imp id fun e => ⟨_, e, Nat.le_refl _⟩))
  rcases hk.form with ⟨-, h0⟩ | ⟨g, cp, rfl, -⟩
  · simp at h0
  have hle : (d ++ [p]).length = d.length + 1 := by rw [List.length_append]; rfl
  rw [hle] at hrun hk hr
  have hp10 := (hr.block pb (xlt hp) hpv).trans hp
  have hpl := xlt hp
  have hne : some pb ≠ some g := fun e => by
    injection e with e
    rcases hr.row with h2 | ⟨n, h2, hn⟩
    · exact hpv (by rw [e]; exact h2)
    · have h3 : g = n := by injection h2
      have := xlt hp
      omega
  have hs10 := setCell_eq_setRow w10 pb 1 _ _ (0, 0) (.slice (some ⟨g, 0, none⟩) (d.length + 1) cp) hp10
  have hg10 := grown_setRow w10 pb ((#[.int .i64 code, .slice A d.length cap] : Array Value).setIfInBounds 1 (.slice (some ⟨g, 0, none⟩) (d.length + 1) cp))
  rw [← hs10] at hg10
  refine ⟨g, cp, w10, hrun, xat hp10 1, by simp [World.frozen?, hp10], ?_⟩
  exact add_end (v' := .slice (some ⟨g, 0, none⟩) (d.length + 1) cp) (w10 := w10) (OwnT.grown hk hg10 (fun b hb e => hne (e.symm.trans hb.symm))) (heap_setCell_same w10 pb 1 _ _ (.slice (some ⟨g, 0, none⟩) (d.length + 1) cp) hp10) hr hg10.size ⟨hg10.os, hg10.tape, hg10.output⟩ (fun k hk hnk hno => hg10.block k hk (fun e => hnk (Option.some.inj e)))
structure TfS (w5 : World) (b1 b2 : Nat) (v1 v2 : Value) (d1 d2 : List NodeD) (w : World) : Prop where
  p1 : w.heap[b1]? = some (.cells #[.int .i64 200, v1] 43 (0, 0))
  p2 : w.heap[b2]? = some (.cells #[.int .i64 404, v2] 43 (0, 0))
  r1 : KRow (w5.heap.size + 2) v1 d1 w
  r2 : KRow (w5.heap.size + 2) v2 d2 w
  ne : ∀ k, v1.ownBlock = some k → v2.ownBlock ≠ some k
  lo : Below w5.heap.size w5 w
  e1 : b1 = w5.heap.size
  e2 : b2 = w5.heap.size + 1
  l1 : LowD w5.heap.size w d1
  l2 : LowD w5.heap.size w d2
section
variable {w5 w w' : World} {b1 b2 : Nat} {v1 v2 : Value} {d1 d2 d' : List NodeD} {e : Ending}
theorem TfS.big (h : TfS w5 b1 b2 v1 v2 d1 d2 w) : w5.heap.size + 2 ≤ w.heap.size := by have := xlt h.p2; have := h.e2; omega
theorem TfS.under (h : TfS w5 b1 b2 v1 v2 d1 d2 w) (hb : Below w.heap.size w w') : TfS w5 b1 b2 v1 v2 d1 d2 w' := by
  have hs := h.big
  exact ⟨(hb.block _ (xlt h.p1)).trans h.p1, (hb.block _ (xlt h.p2)).trans h.p2, h.r1.below hb, h.r2.below hb, h.ne, h.lo.trans (hb.mono (by omega)), h.e1, h.e2, h.l1.below (hb.mono (by omega)), h.l2.below (hb.mono (by omega))⟩
theorem TfS.one (h : TfS w5 b1 b2 v1 v2 d1 d2 w) (ha : AddP (w5.heap.size + 2) b1 200 v1 d' w e w') (hl : ∀ W, Below w5.heap.size w5 W → LowD w5.heap.size W d') : ∃ v, TfS w5 b1 b2 v v2 d' d2 w' := by
  obtain ⟨-, v, hr, hp, hg⟩ := ha
  have hs := h.big
  have h1 := h.e1
  have h2 := h.e2
  have hb : Below w5.heap.size w w' := ⟨hg.os, hg.tape, hg.output, hg.size, fun k hk => hg.block k (by omega) (by omega) (fun e => by have := (h.r1.lt k e.symm).1; omega)⟩
  have hnew : ∀ k, v.ownBlock = some k → v1.ownBlock = some k ∨ w.heap.size ≤ k := fun k hk => hg.row.imp (fun e => by rw [← e]; exact hk) fun ⟨j, e, hs⟩ => by rw [e] at hk; injection hk with hk; omega
  refine ⟨v, hp, (hg.block b2 (xlt h.p2) (by omega) (fun e => by have := (h.r1.lt _ e.symm).1; omega)).trans h.p2, hr, h.r2.keep (fun g e => hg.block g (h.r2.lt g e).2 (by have := (h.r2.lt g e).1; omega) (fun e2 => h.ne g e2.symm e)), fun k hk e2 => ?_, h.lo.trans hb, h.e1, h.e2, hl _ (h.lo.trans hb), h.l2.below hb⟩
  rcases hnew k hk with e | e
  · exact h.ne k e e2
  · have := (h.r2.lt k e2).2; omega
theorem TfS.two (h : TfS w5 b1 b2 v1 v2 d1 d2 w) (ha : AddP (w5.heap.size + 2) b2 404 v2 d' w e w') (hl : ∀ W, Below w5.heap.size w5 W → LowD w5.heap.size W d') : ∃ v, TfS w5 b1 b2 v1 v d1 d' w' := by
  obtain ⟨-, v, hr, hp, hg⟩ := ha
  have hs := h.big
  have h1 := h.e1
  have h2 := h.e2
  have hb : Below w5.heap.size w w' := ⟨hg.os, hg.tape, hg.output, hg.size, fun k hk => hg.block k (by omega) (by omega) (fun e => by have := (h.r2.lt k e.symm).1; omega)⟩
  have hnew : ∀ k, v.ownBlock = some k → v2.ownBlock = some k ∨ w.heap.size ≤ k := fun k hk => hg.row.imp (fun e => by rw [← e]; exact hk) fun ⟨j, e, hs⟩ => by rw [e] at hk; injection hk with hk; omega
  refine ⟨v, (hg.block b1 (xlt h.p1) (by omega) (fun e => by have := (h.r2.lt _ e.symm).1; omega)).trans h.p1, hp, h.r1.keep (fun g e => hg.block g (h.r1.lt g e).2 (by have := (h.r1.lt g e).1; omega) (fun e2 => h.ne g e e2.symm)), hr, fun k hk e2 => ?_, h.lo.trans hb, h.e1, h.e2, h.l1.below hb, hl _ (h.lo.trans hb)⟩
  rcases hnew k e2 with e | e
  · exact h.ne k hk e
  · have := (h.r1.lt k hk).2; omega
end
end Go.Proofs.YtjkiehmjffgnlaaGreatDoor
namespace Go.Proofs.YtjkiehmjffgnlaaGreatDoor
set_option linter.unusedVariables false
set_option linter.unusedSimpArgs false
open Go.RowKit

def TwoP (x : NodeT) (k2 : KeyT) (w : World) (e : Ending) (w' : World) : Prop := ∃ b, e = .returned (.slice (some ⟨b, 0, none⟩) 2 2) ∧ PartsP anyB w' (.slice (some ⟨b, 0, none⟩) 2 2) [⟨200, [x]⟩, ⟨404, [bareN k2]⟩] ∧ Below w.heap.size w w'
theorem two_end {w5 w W w9 : World} {b1 b2 g : Nat} {A1 A2 : Option Addr} {c1 c2 : Nat} {dx : NodeD} {k2 : KeyT} (h : TfS w5 b1 b2 (.slice A1 1 c1) (.slice A2 1 c2) [dx] [bareD k2] W) (hg : W.heap.size ≤ g) (hlo : Below w.heap.size w w5) (hW : ∀ k, k < W.heap.size → w9.heap[k]? = W.heap[k]?) (ho : w9.os = W.os ∧ w9.tape = W.tape ∧ w9.output = W.output) (hs : W.heap.size ≤ w9.heap.size) {B : Nat} (hp9 : PRow B g 2 (fullD [⟨200, A1, 1, c1⟩, ⟨404, A2, 1, c2⟩]) w9) :
    TwoP dx.x k2 w (.returned (.slice (some ⟨g, 0, none⟩) 2 2)) w9 := by
  have hb : Below W.heap.size W w9 := ⟨ho.1, ho.2.1, ho.2.2, hs, hW⟩
  have h9 := h.under hb
  have hbg := h.big
  refine ⟨g, rfl, ?_, (hlo.trans (h.lo.mono hlo.size)).trans (hb.mono (by have := hlo.size; omega))⟩
  exact parts_full (Z := [(⟨200, A1, 1, c1⟩, ⟨200, [dx.x]⟩), (⟨404, A2, 1, c2⟩, ⟨404, [bareN k2]⟩)]) hp9 (fun z hz => by
    simp only [List.mem_cons, List.not_mem_nil, or_false] at hz
    rcases hz with rfl | rfl
    · exact ⟨rfl, rfl, h9.r1.nodes h9.l1.hang⟩
    · exact ⟨rfl, rfl, h9.r2.nodes h9.l2.hang⟩)
section
variable {pA : Option Addr} {pc : Nat} {path : List (List UInt8)} {kind size etag : Int} {dA : Option Addr} {dc : Nat} {dead : List NodeT} {lA : Option Addr} {lc : Nat} {ls : List LockT} {now : Int} {w w' : World}
set_option maxHeartbeats 32000000 in
set_option maxRecDepth 100000 in
set_option linter.unusedSimpArgs false in
theorem tell_two (nb no nc j : Nat) (s1 n1 s2 n2 : List UInt8) (x : NodeT) (hnl : nb < w.heap.size) (hnc : 2 ≤ nc) (hnm : nc ≤ maxLen) (c0 : w.cell? ⟨nb, no, none⟩ = some (.string ⟨s1.toArray⟩)) (c1 : w.cell? ⟨nb, no + 1, none⟩ = some (.string ⟨n1.toArray⟩)) (c2 : w.cell? ⟨nb, no + 2, none⟩ = some (.string ⟨s2.toArray⟩)) (c3 : w.cell? ⟨nb, no + 2 + 1, none⟩ = some (.string ⟨n2.toArray⟩))
    (hj : ∀ K, idxFrom (s1, n1) (allN kind size etag K dead) 0 = (j : Int) ∧ (allN kind size etag K dead)[j]? = some x) (hm : ∀ K, idxFrom (s2, n2) (allN kind size etag K dead) 0 = -1) (h : SeenP pA pc path size etag dA dc dead lA lc ls now w) : Calls Tryz.prog 13 #[.slice pA path.length pc, .agg #[.int .i64 kind, .int .i64 size, .int .i64 etag], .slice dA dead.length dc, .slice lA ls.length lc, .int .i64 now, .agg #[.int .i64 2, .slice (some ⟨nb, no, none⟩) 2 nc]] w (TwoP x (s2, n2) w) := by
  obtain ⟨E, hEE⟩ : ∃ E, E = TwoP x (s2, n2) w := ⟨_, rfl⟩
  rw [← hEE]
  have HEE := Lib.hid hEE
  obtain ⟨hb, h0, h1⟩ := two_alloc w (.cells #[.int .i64 kind, .int .i64 size, .int .i64 etag] 33 (0, 0)) (.cells #[.int .i64 2, .slice (some ⟨nb, no, none⟩) 2 nc] 37 (0, 0))
  have HAl := Lib.hid ((h.below hb).all kind)
  have HB := Lib.hid hb
  have H1 := Lib.hid h1
  have HC := Lib.hid (fun (W : World) (hW : Below w.heap.size w W) => (show W.cell? ⟨nb, no, none⟩ = some (.string ⟨s1.toArray⟩) ∧ W.cell? ⟨nb, no + 1, none⟩ = some (.string ⟨n1.toArray⟩) ∧ W.cell? ⟨nb, no + 2, none⟩ = some (.string ⟨s2.toArray⟩) ∧ W.cell? ⟨nb, no + 2 + 1, none⟩ = some (.string ⟨n2.toArray⟩) from
    ⟨(hW.cell (p := ⟨nb, no, none⟩) hnl).trans c0, (hW.cell (p := ⟨nb, no + 1, none⟩) hnl).trans c1, (hW.cell (p := ⟨nb, no + 2, none⟩) hnl).trans c2, (hW.cell (p := ⟨nb, no + 2 + 1, none⟩) hnl).trans c3⟩))
  have HJ := Lib.hid hj
  have HM := Lib.hid hm
  unfold maxLen at hnm
  clear hEE h hb h0 h1 c0 c1 c2 c3 hj hm
  go_enter Tryz.func13, Tryz.ntmps13
  go_wp2_with fail
  refine HAl.out.mono ?_
  rintro e w5 ⟨v, d, K, rfl, hK, hdx, hk, hn, hb5⟩
  rcases hk.form with ⟨-, h0⟩ | ⟨g, cap, rfl, hkr⟩
  · exfalso
    rw [h0] at hdx
    unfold allN at hdx
    cases hdx
  obtain ⟨hc1, hc2⟩ := hkr.len
  unfold maxLen at hc2
  have hlo5 := HB.out.trans (hb5.mono HB.out.size)
  have HLo5 := Lib.hid hlo5
  have hq0 := (hb5.block _ (xlt H1.out)).trans H1.out
  obtain ⟨hj1, hj2⟩ := HJ.out K
  rw [← hdx] at hj1 hj2
  have hm1 := HM.out K
  rw [← hdx] at hm1
  obtain ⟨dx, hdj, hdxx⟩ : ∃ dx : NodeD, d[j]? = some dx ∧ dx.x = x := by
    rw [List.getElem?_map] at hj2
    cases hdj : d[j]? with
    | none => rw [hdj] at hj2; cases hj2
    | some dx => rw [hdj] at hj2; injection hj2 with hj2; exact ⟨dx, rfl, hj2⟩
  have hjl : j < d.length := (List.getElem?_eq_some_iff.1 hdj).1
  have hrj : (d.map NodeD.cells)[j]? = some dx.cells := by rw [List.getElem?_map, hdj]; rfl
  have hg5 := (hk.lt g rfl).2
  have HL := Lib.hid (fun (W : World) (hW : Below w5.heap.size w5 W) => (show W.cell? ⟨g, j * 5, none⟩ = some (.string ⟨dx.x.text.toArray⟩) ∧ W.cell? ⟨g, j * 5 + 1, none⟩ = some (.string ⟨dx.x.space.toArray⟩) ∧ W.cell? ⟨g, j * 5 + 2, none⟩ = some (.string ⟨dx.x.name.toArray⟩) ∧ W.cell? ⟨g, j * 5 + 3, none⟩ = some (.slice dx.aA dx.am dx.ac) ∧ W.cell? ⟨g, j * 5 + 4, none⟩ = some (.slice dx.kA dx.km dx.kc) from
    ⟨(hW.cell (p := ⟨g, j * 5, none⟩) hg5).trans (OwnT.cellAt hk rfl hrj (k := 0) rfl), (hW.cell (p := ⟨g, j * 5 + 1, none⟩) hg5).trans (OwnT.cellAt hk rfl hrj (k := 1) rfl), (hW.cell (p := ⟨g, j * 5 + 2, none⟩) hg5).trans (OwnT.cellAt hk rfl hrj (k := 2) rfl), (hW.cell (p := ⟨g, j * 5 + 3, none⟩) hg5).trans (OwnT.cellAt hk rfl hrj (k := 3) rfl), (hW.cell (p := ⟨g, j * 5 + 4, none⟩) hg5).trans (OwnT.cellAt hk rfl hrj (k := 4) rfl)⟩))
  have HLow := Lib.hid (show ∀ W, Below w5.heap.size w5 W → LowD w5.heap.size W [dx] from fun W hW p hp => by
    rw [List.mem_singleton.1 hp]
    exact (hn dx (List.mem_of_getElem? hdj)).move ⟨hW.size, fun k _ hk => ⟨hk, hW.block k hk⟩⟩)
  have hT5 := (hk.nodes (fun p hp => (hn p hp).move (Moves.same _ fun _ _ _ => trivial))).1
  have HIx := Lib.hid (fun (W : World) (hW : Below w5.heap.size w5 W) (k : KeyT) (pb : Nat) (hp : W.heap[pb]? = some (.cells #[.string ⟨k.1.toArray⟩, .string ⟨k.2.toArray⟩] 52 (0, 0))) => idx_tell (d.map (·.x)) (some ⟨g, 0, none⟩) d.length cap W (Tab.below hT5 hW (Nat.le_refl _) fun cs x hx => hx.under hW) k pb hp)
  have HJ1 := Lib.hid hj1
  have HM1 := Lib.hid hm1
  have HDX := Lib.hid hdxx
  obtain ⟨hba, ha0, ha1⟩ := two_alloc w5 (.cells #[.int .i64 200, .slice none 0 0] 43 (0, 0)) (.cells #[.int .i64 404, .slice none 0 0] 43 (0, 0))
  have HS0 := Lib.hid (show TfS w5 w5.heap.size (w5.heap.size + 1) (.slice none 0 0) (.slice none 0 0) [] [] _ from ⟨ha0, ha1, KRow.nil _ _, KRow.nil _ _, (fun k e => by cases e), hba, rfl, rfl, (fun p hp => by cases hp), fun p hp => by cases hp⟩)
  have hq6 := (hba.block _ (xlt hq0)).trans hq0
  have y0 := xat hq0 0
  have y1 := xat hq6 1
  simp only [List.getElem?_toArray, List.getElem?_cons_zero, List.getElem?_cons_succ] at y0 y1
  clear hK hdx hk hkr hn hb5 hlo5 hq0 hj1 hj2 hm1 hdxx hdj hrj hg5 hT5 hba ha0 ha1 hq6 HAl HB H1 HJ HM
  go_upto_block 12 with (fail)
  generalize (w5.alloc (.cells #[.int .i64 200, .slice none 0 0] 43 (0, 0))).alloc (.cells #[.int .i64 404, .slice none 0 0] 43 (0, 0)) = W0 at *
  obtain ⟨b2, hb2⟩ : ∃ b2, b2 = w5.heap.size + 1 := ⟨_, rfl⟩
  rw [← hb2] at HS0 ⊢
  clear hb2
  obtain ⟨b1, hb1⟩ : ∃ b1, b1 = w5.heap.size := ⟨_, rfl⟩
  rw [← hb1] at HS0 ⊢
  clear hb1 y0 y1
  have kj1 : (0 : Int) ≤ (j : Int) := by omega
  have kj2 : (j : Int) < (d.length : Int) := by omega
  have kj3 : ¬ (j : Int) < 0 := by omega
  go_loopg [55] 2 (fun gk v55 wr => ∃ (i : Nat) (v1 v2 : Value) (d1 d2 : List NodeD), i + gk = 2 ∧ v55 = .int .i64 i ∧ d1 = (if i = 0 then [] else [dx]) ∧ d2 = (if i = 2 then [bareD (s2, n2)] else []) ∧ Hid (TfS w5 b1 b2 v1 v2 d1 d2 wr))
  case atStart => exact ⟨0, _, _, [], [], rfl, rfl, rfl, rfl, HS0⟩
  case round =>
    obtain ⟨i, v1, v2, d1, d2, hig, rfl, hd1, hd2, HS⟩ := hrel
    have hi3 : i = 0 ∨ i = 1 ∨ i = 2 := by omega
    obtain ⟨A1, c1, rfl, hl1, hm1, -⟩ := HS.out.r1.slice
    obtain ⟨A2, c2, rfl, hl2, hm2, -⟩ := HS.out.r2.slice
    unfold maxLen at hm1 hm2
    have hlo := HLo5.out.trans (HS.out.lo.mono HLo5.out.size)
    obtain ⟨e0, e1, e2, e3⟩ := HC.out wr hlo
    rcases hi3 with rfl | rfl | rfl
    · rw [if_pos rfl] at hd1
      rw [if_neg (by decide)] at hd2
      subst hd1 hd2
      have hal : Below wr.heap.size wr (wr.alloc (.cells #[.string ⟨s1.toArray⟩, .string ⟨n1.toArray⟩] 52 (0, 0))) := (Below.refl _ _).alloc (Nat.le_refl _) _
      have hS1 := HS.out.under hal
      have HI := Lib.hid (HIx.out _ hS1.lo (s1, n1) wr.heap.size (heap_alloc_new wr (.cells #[.string ⟨s1.toArray⟩, .string ⟨n1.toArray⟩] 52 (0, 0))))
      rw [HJ1.out] at HI
      have HS1 := Lib.hid hS1
      clear hal hS1
      go_wp2_with fail
      refine HI.out.mono ?_
      rintro e w7 ⟨rfl, q7, os7, he7⟩
      have hS7 := HS1.out.under (he7 ▸ below_grown _ q7 os7)
      obtain ⟨f0, f1, f2, f3, f4⟩ := HL.out w7 hS7.lo
      have y := xat hS7.p1 1
      simp only [List.getElem?_toArray, List.getElem?_cons_zero, List.getElem?_cons_succ] at y
      have yB : (w7.alloc (.cells #[.string ⟨dx.x.text.toArray⟩, .string ⟨dx.x.space.toArray⟩, .string ⟨dx.x.name.toArray⟩, .slice dx.aA dx.am dx.ac, .slice dx.kA dx.km dx.kc] 46 (0, 0))).cell? ⟨b1, 1, none⟩ = some (.slice A1 (List.length ([] : List NodeD)) c1) := (((Below.refl w7.heap.size w7).alloc (Nat.le_refl _) _).cell (p := ⟨b1, 1, none⟩) (xlt hS7.p1)).trans y
      obtain ⟨g9, cp9, w10, hrun, z9, fz9, hA⟩ := part_app (w1 := w7.drew) hS7.r1 hS7.p1 hS7.big (fun e => by have := (hS7.r1.lt _ e.symm).1; have := hS7.e1; omega) (by simp) (below_draws (Below.refl _ _) 1) dx rfl
      obtain ⟨v9, hS9⟩ := hS7.one hA (fun W hW => HLow.out W hW)
      obtain ⟨A9, c9, hv9, -, -, -⟩ := hS9.r1.slice
      have HR := Lib.hid hrun
      have HS9 := Lib.hid hS9
      clear he7 hS7 hrun hA hS9 HS1 HI e0 e1 e2 e3 hlo HS hv9
      go_upto_region 17 with (fail)
      go_region_law (refine step_app_ex rfl (.tmp 72) (.tmp 77) rfl (by rfl) (by rfl) ⟨_, _, HR.out, ?_⟩)
      all_goals
        go_wp2
        go_roundg 1
        case measure => omega
        case rel => exact ⟨1, _, _, [dx], [], by omega, by go_num, rfl, rfl, HS9⟩
    · rw [if_neg (by decide)] at hd1 hd2
      subst hd1 hd2
      have hal : Below wr.heap.size wr (wr.alloc (.cells #[.string ⟨s2.toArray⟩, .string ⟨n2.toArray⟩] 52 (0, 0))) := (Below.refl _ _).alloc (Nat.le_refl _) _
      have hS1 := HS.out.under hal
      have HI := Lib.hid (HIx.out _ hS1.lo (s2, n2) wr.heap.size (heap_alloc_new wr (.cells #[.string ⟨s2.toArray⟩, .string ⟨n2.toArray⟩] 52 (0, 0))))
      rw [HM1.out] at HI
      have HS1 := Lib.hid hS1
      have HQ := Lib.hid (heap_alloc_new wr (.cells #[.string ⟨s2.toArray⟩, .string ⟨n2.toArray⟩] 52 (0, 0)))
      clear hal hS1
      go_wp2_with fail
      refine HI.out.mono ?_
      rintro e w7 ⟨rfl, q7, os7, he7⟩
      have hb7 := he7 ▸ below_grown _ q7 os7
      have hS7 := HS1.out.under hb7
      have hq7 := (hb7.block _ (xlt HQ.out)).trans HQ.out
      have HS7 := Lib.hid hS7
      obtain ⟨kb, hkb⟩ : ∃ kb, kb = wr.heap.size := ⟨_, rfl⟩
      rw [← hkb] at hq7 ⊢
      clear hkb
      have x0 := xat hq7 0
      have x1 := xat hq7 1
      have y := xat hS7.p2 1
      simp only [List.getElem?_toArray, List.getElem?_cons_zero, List.getElem?_cons_succ] at x0 x1 y
      have hd7 : Below w7.heap.size w7 w7.drew := below_draws (Below.refl _ _) 1
      have hpl := xlt hS7.p2
      have HY := Lib.hid (fun (w8 : World) (h : Below w7.heap.size w7.drew w8) (ob : Obj) => (show w8.cell? ⟨b2, 1, none⟩ = some (.slice A2 (List.length ([] : List NodeD)) c2) ∧ (w8.alloc ob).cell? ⟨b2, 1, none⟩ = some (.slice A2 (List.length ([] : List NodeD)) c2) from
        ⟨(h.cell (p := ⟨b2, 1, none⟩) hpl).trans y, ((h.alloc h.size ob).cell (p := ⟨b2, 1, none⟩) hpl).trans y⟩))
      obtain ⟨f0, f1, f2, f3, f4, hfc, hbare⟩ : ∃ f0 f1 f2 f3 f4, (bareD (s2, n2)).cells = [f0, f1, f2, f3, f4] ∧ ∀ w, Calls Tryz.prog 32 #[.agg #[.string ⟨s2.toArray⟩, .string ⟨n2.toArray⟩]] w (RetW (.agg #[f0, f1, f2, f3, f4]) w) := ⟨_, _, _, _, _, rfl, bare_any s2 n2⟩
      have HBare := Lib.hid hbare
      have HKA := Lib.hid (fun (w8 : World) (h : ∃ q os, w8 = Sort.grow (w7.drew.drewN q) os) => (show Below w7.heap.size w7.drew w8 from by
        obtain ⟨q9, os9, rfl⟩ := h
        exact below_grown w7.drew q9 os9))
      have HAp := Lib.hid (fun (w8 : World) (h : Below w7.heap.size w7.drew w8) => part_app (w1 := w8) HS7.out.r2 HS7.out.p2 HS7.out.big (fun e => by have := (HS7.out.r2.lt _ e.symm).1; have := HS7.out.e2; omega) (by simp) (hd7.trans h) (bareD (s2, n2)) hfc)
      clear he7 hb7 hS7 hq7 HQ HS1 HI e0 e1 e2 e3 hlo HS hfc hbare hpl
      go_upto_region 16 with (fail)
      go_region_law (first
        | (revert HB8; intro HB8; refine step_app_ex rfl (.tmp 65) (.tmp 68) rfl (by rfl) (by rfl) ?_; obtain ⟨g9, cp9, w10, hrun, z9, fz9, hA⟩ := HAp.out w8 HB8.out; refine ⟨_, _, hrun, ?_⟩; have HA := Lib.hid hA; clear hrun hA)
        | (go_simp; go_at_call 32; refine (HBare.out _).mono ?_; rintro e w8 ⟨rfl, hq8⟩; have HB8 := Lib.hid (HKA.out w8 hq8); obtain ⟨yA, yB⟩ := HY.out w8 HB8.out (.cells #[f0, f1, f2, f3, f4] 46 (0, 0)); clear hq8))
      all_goals
        obtain ⟨v9, hS9⟩ := HS7.out.two HA.out (fun W hW p hp => by
          rw [List.nil_append, List.mem_singleton] at hp
          rw [hp]
          exact bare_node _ _ _)
        have HS9 := Lib.hid hS9
        clear hS9
        go_wp2
        go_roundg 0
        case measure => omega
        case rel => exact ⟨2, _, _, [dx], [bareD (s2, n2)], by omega, by go_num, rfl, rfl, HS9⟩
    · rw [if_neg (by decide)] at hd1
      rw [if_pos rfl] at hd2
      subst hd1 hd2
      have p1 := HS.out.p1
      have p2 := HS.out.p2
      have y0 := xat p1 0
      have y1 := xat p1 1
      have z0 := xat p2 0
      have z1 := xat p2 1
      simp only [List.getElem?_toArray, List.getElem?_cons_zero, List.getElem?_cons_succ] at y0 y1 z0 z1
      have hal : Below wr.heap.size wr (wr.alloc (.cells #[.int .i64 200, .slice A1 1 c1, .int .i64 404, .slice A2 1 c2] 43 (0, 0))) := (Below.refl _ _).alloc (Nat.le_refl _) _
      have HAl := Lib.hid hal
      have HFu := Lib.hid (full_any w.heap.size wr.heap.size 2 [⟨200, A1, 1, c1⟩, ⟨404, A2, 1, c2⟩] 2 _ rfl (prow_lit2 (heap_alloc_new wr (.cells #[.int .i64 200, .slice A1 1 c1, .int .i64 404, .slice A2 1 c2] 43 (0, 0))) hlo.size) (by decide))
      clear p1 p2 hal e0 e1 e2 e3
      go_wp2_with fail
      refine HFu.out.mono ?_
      rintro e w7 ⟨rfl, hp7, hg7⟩
      have HF := Lib.hid (two_end (w := w) HS.out (Nat.le_refl _) HLo5.out (fun k hk => (hg7.block k (Nat.lt_of_lt_of_le hk HAl.out.size) (fun e => by injection e with e; omega)).trans (HAl.out.block k hk)) ⟨hg7.os.trans HAl.out.os, hg7.tape.trans HAl.out.tape, hg7.output.trans HAl.out.output⟩ (Nat.le_trans HAl.out.size hg7.size) hp7)
      rw [HDX.out] at HF
      clear hp7 hg7 y0 y1 z0 z1
      go_wp2
      rw [HEE.out]
      exact HF.out
end
end Go.Proofs.YtjkiehmjffgnlaaGreatDoor

import Derived.Test.YtjkiehmjffgnlaaGreatDoorXmlZ10
import Derived.Test.YtjkiehmjffgnlaaGreatDoorShelfB
import Derived.Lib.AppendStr
import Derived.Maps.AppendAt
import Derived.Test.YtjkiehmjffgnlaaGreatDoorXmlZ2
import Derived.Test.YtjkiehmjffgnlaaGreatDoorXmlZ1
namespace Go.Proofs.YtjkiehmjffgnlaaGreatDoor
set_option linter.unusedVariables false
set_option linter.unusedSimpArgs false
open Go.RowKit

/-- the builder in block b, its bytes in row r. -/
def BldR (B b : Nat) (r : Option Nat) (l : List UInt8) (w : World) : Prop := ∃ p v, B ≤ b ∧ (p = .pointer none ∨ p = .pointer (some ⟨b, 0, none⟩)) ∧ w.heap[b]? = some (.cells #[p, v] 118 (0, 0)) ∧ w.ownsRow B 5 1 v (Lib.byteCells l).length (Lib.byteCells l) ∧ v.ownBlock = r ∧ r ≠ some b
theorem BldR.bld {B b : Nat} {r : Option Nat} {l : List UInt8} {w : World} (h : BldR B b r l w) : Bld B b l w := by
  obtain ⟨p, v, hB, hp, hb, ho, hr, hne⟩ := h
  rcases hp with rfl | rfl
  · exact .inl ⟨hB, v, hb, ho, by rw [hr]; exact hne⟩
  · exact .inr ⟨hB, v, hb, ho, by rw [hr]; exact hne⟩
theorem Bld.row {B b : Nat} {l : List UInt8} {w : World} (h : Bld B b l w) : ∃ r, BldR B b r l w := by
  rcases h with ⟨hB, v, hb, ho, hne⟩ | ⟨hB, v, hb, ho, hne⟩
  · exact ⟨_, _, v, hB, .inl rfl, hb, ho, rfl, hne⟩
  · exact ⟨_, _, v, hB, .inr rfl, hb, ho, rfl, hne⟩
theorem BldR.lt {B b : Nat} {r : Option Nat} {l : List UInt8} {w : World} (h : BldR B b r l w) : B ≤ b ∧ b < w.heap.size := h.bld.lt
theorem BldR.row_lt {B b : Nat} {r : Option Nat} {l : List UInt8} {w : World} (h : BldR B b r l w) : ∀ k, r = some k → B ≤ k ∧ k < w.heap.size := by
  obtain ⟨p, v, hB, hp, hb, ho, hr, hne⟩ := h
  intro k hk
  exact World.ownsRow.lt ho k (by rw [hr]; exact hk)
theorem BldR.kept {B b : Nat} {r : Option Nat} {l : List UInt8} {w w' : World} (h : BldR B b r l w) (hs : w.heap.size ≤ w'.heap.size) (hb' : w'.heap[b]? = w.heap[b]?) (hr' : ∀ k, r = some k → w'.heap[k]? = w.heap[k]?) : BldR B b r l w' := by
  obtain ⟨p, v, hB, hp, hb, ho, hr, hne⟩ := h
  refine ⟨p, v, hB, hp, hb'.trans hb, ?_, hr, hne⟩
  refine ⟨ho.1, ?_⟩
  rcases ho.2 with h0 | ⟨g, cap, cur, hv, hbg, hg, rest⟩
  · exact .inl h0
  · exact .inr ⟨g, cap, cur, hv, hbg, (hr' g (by rw [← hr, hv]; rfl)).trans hg, rest⟩
structure BFr (b : Nat) (r r' : Option Nat) (w w' : World) : Prop where
  os : w'.os = w.os
  tape : w'.tape = w.tape
  output : w'.output = w.output
  size : w.heap.size ≤ w'.heap.size
  block : ∀ k, k < w.heap.size → k ≠ b → some k ≠ r → w'.heap[k]? = w.heap[k]?
  row : r' = r ∨ ∃ k, r' = some k ∧ w.heap.size ≤ k
theorem BFr.refl (b : Nat) (r : Option Nat) (w : World) : BFr b r r w w := ⟨rfl, rfl, rfl, Nat.le_refl _, fun _ _ _ _ => rfl, .inl rfl⟩
theorem BFr.trans {b : Nat} {r r1 r2 : Option Nat} {w w1 w2 : World} (h1 : BFr b r r1 w w1) (h2 : BFr b r1 r2 w1 w2) : BFr b r r2 w w2 := by
  refine ⟨h2.os.trans h1.os, h2.tape.trans h1.tape, h2.output.trans h1.output, Nat.le_trans h1.size h2.size, fun k hk hb hr => ?_, ?_⟩
  · refine (h2.block k (Nat.lt_of_lt_of_le hk h1.size) hb fun e => ?_).trans (h1.block k hk hb hr)
    rcases h1.row with e1 | ⟨j, e1, hj⟩
    · exact hr (e.trans e1)
    · rw [e1] at e; injection e with e; omega
  · rcases h2.row with e2 | ⟨j, e2, hj⟩
    · rcases h1.row with e1 | ⟨i, e1, hi⟩
      · exact .inl (e2.trans e1)
      · exact .inr ⟨i, e2.trans e1, hi⟩
    · exact .inr ⟨j, e2, Nat.le_trans h1.size hj⟩
theorem BFr.below {b : Nat} {r r' : Option Nat} {w w' : World} {B : Nat} (h : BFr b r r' w w') (hb : B ≤ b) (hr : ∀ k, r = some k → B ≤ k) (hB : B ≤ w.heap.size) : Below B w w' :=
  ⟨h.os, h.tape, h.output, h.size, fun k hk => h.block k (by omega) (by omega) fun e => by have := hr k e.symm; omega⟩
theorem copy_any (B b : Nat) (r : Option Nat) (l : List UInt8) (w : World) (h : BldR B b r l w) :
    Calls Tryz.prog 96 #[.pointer (some ⟨b, 0, none⟩)] w (fun e w' => e = .returned (.tuple #[]) ∧ BFr b r r w w' ∧ ∃ v, w'.heap[b]? = some (.cells #[.pointer (some ⟨b, 0, none⟩), v] 118 (0, 0)) ∧ w'.ownsRow B 5 1 v (Lib.byteCells l).length (Lib.byteCells l) ∧ v.ownBlock = r ∧ r ≠ some b) := by
  have hlt := h.lt.2
  obtain ⟨p, v, hB, hp, hb, ho, hr, hne⟩ := h
  have hX : Builder.X72 Tryz.prog Tryz.lay240_ren := { sizeBuilder := by kernel_rfl, liesBuilder := by kernel_rfl }
  rcases hp with rfl | rfl
  · refine (Any.Builder_copyCheck_fresh Tryz.lay240 hX b w (by rw [xat hb]; rfl) (by simp [World.shape?, hb]; rfl) (xfree hb 0)).mono ?_
    rintro e w' ⟨rfl, rfl⟩
    refine ⟨rfl, ⟨rfl, rfl, rfl, by simp, fun k hk hkb _ => heap_setCell_other _ _ _ _ (by simpa using hkb), .inl rfl⟩, v, ?_, ?_, hr, hne⟩
    · exact heap_setCell_same w b 0 _ _ _ hb
    · exact ho.kept (row := some b) (xgrown_cell w b 0 _) (.inr (by rw [hr]; exact hne))
  · refine (Any.Builder_copyCheck_used Tryz.lay240 hX b w (by rw [xat hb]; rfl)).mono ?_
    rintro e w' ⟨rfl, rfl⟩
    exact ⟨rfl, BFr.refl _ _ _, v, hb, ho, hr, hne⟩
def WrP (B b : Nat) (r : Option Nat) (l s : List UInt8) (w : World) (e : Ending) (w' : World) : Prop := e = .returned (.tuple #[.int .i64 s.length, .nilIface]) ∧ ∃ r', BldR B b r' (l ++ s) w' ∧ BFr b r r' w w'
theorem byteCells_app (l s : List UInt8) : Lib.byteCells (l ++ s) = Lib.byteCells l ++ Lib.byteCells s := by
  unfold Lib.byteCells
  rw [List.map_append]
theorem wr_end {B b : Nat} {r : Option Nat} {l s : List UInt8} {w w1 w2 : World} {v v' : Value} (hB : B ≤ b) (hbr : BFr b r r w w1) (hb1 : w1.heap[b]? = some (.cells #[.pointer (some ⟨b, 0, none⟩), v] 118 (0, 0))) (hr : v.ownBlock = r) (hne : r ≠ some b)
    (ho : w2.ownsRow B 5 1 v' (Lib.byteCells (l ++ s)).length (Lib.byteCells (l ++ s))) (hg : w1.grownBy w2 v.ownBlock) (hn : v'.ownBlock = v.ownBlock ∨ ∃ k, v'.ownBlock = some k ∧ w1.heap.size ≤ k) :
    ∃ r', BldR B b r' (l ++ s) (w2.setCell ⟨b, 1, none⟩ v') ∧ BFr b r r' w (w2.setCell ⟨b, 1, none⟩ v') := by
  subst hr
  have hlt : b < w1.heap.size := xlt hb1
  have hb2 : w2.heap[b]? = some (.cells #[.pointer (some ⟨b, 0, none⟩), v] 118 (0, 0)) := (hg.block b hlt (fun e => hne e.symm)).trans hb1
  have hne' : v'.ownBlock ≠ some b := by
    rcases hn with hn | ⟨k, hk, hks⟩
    · rw [hn]; exact hne
    · rw [hk]; intro e; injection e with e; omega
  refine ⟨v'.ownBlock, ⟨_, v', hB, .inr rfl, heap_setCell_same w2 b 1 _ _ v' hb2, ho.kept (row := some b) (xgrown_cell w2 b 1 v') (.inr hne'), rfl, hne'⟩, ?_⟩
  refine ⟨hg.os.trans hbr.os, hg.tape.trans hbr.tape, hg.output.trans hbr.output, by simp; exact Nat.le_trans hbr.size hg.size, fun k hk hkb hkr => ?_, ?_⟩
  · refine (heap_setCell_other w2 ⟨b, 1, none⟩ k v' hkb).trans ((hg.block k (Nat.lt_of_lt_of_le hk hbr.size) hkr).trans (hbr.block k hk hkb hkr))
  · rcases hn with hn | ⟨k, hk, hks⟩
    · exact .inl hn
    · exact .inr ⟨k, hk, Nat.le_trans hbr.size hks⟩
theorem append_row {P : Program} {w w' : World} {t u ty e : TypeId} {i : TypeInfo} (ht : P.underlying t = some (.slice e)) (hu : P.underlying u = some .string) (hi : P.info? e = some i) (hz : i.zero = some (.int .u8 0)) (hsize : i.size = 1) (hby : i.bytes = 1)
    {B : Nat} {v v' : Value} {n : Nat} {xs : List Value} (hown : w.ownsRow B e 1 v n xs) (s : ByteArray) (h63 : n + s.size ≤ maxLen) (hbytes : n + s.size ≤ 140737488355328) (hr : (Builtin.append_ #[t, u] ty #[v, .string s]).run P w = .ok v' w')
    (hnil : v' = .slice none 0 0 ↔ v = .slice none 0 0 ∧ s.size = 0) : v'.ownBlock = v.ownBlock ∨ ∃ k, v'.ownBlock = some k ∧ w.heap.size ≤ k := by
  have hxl : xs.length = n := by simpa using hown.1
  rcases hown.2 with ⟨rfl, rfl⟩ | ⟨g, cap, cur, rfl, hbg, hg, hnc, hcm, hcs, htake⟩
  · by_cases hm : s.size = 0
    · rw [hnil.2 ⟨rfl, hm⟩]
      exact .inl rfl
    · have h := run_append_nil_string (P := P) w t u ty e i (.int .u8 0) ht hu hi hz s (by omega) (by unfold maxLen at h63; omega) (by rw [hby]; omega)
      rw [h] at hr
      injection hr with hr _
      subst hr
      exact .inr ⟨_, rfl, Nat.le_refl _⟩
  · by_cases hroom : n + s.size ≤ cap
    · have hcs' : cur.size = cap := by simpa using hcs
      have h := Lib.run_append_room_string (P := P) w t u ty e i ht hu hi hsize g n cap cur hg s hroom (by omega)
      rw [h] at hr
      injection hr with hr _
      subst hr
      exact .inl rfl
    · have holds : ∀ j u, xs[j]? = some u → w.cell? ((⟨g, 0, none⟩ : Addr).add j) = some u := hown.cells (g := g) rfl
      have h := Lib.run_append_grow_string (P := P) w t u ty e i (.int .u8 0) ht hu hi hz ⟨g, 0, none⟩ n cap xs (by rw [hsize]; simpa using hxl) holds s (by omega) (by unfold maxLen at h63; omega) (by rw [hby]; exact growslice_fits (by omega) (by omega))
      rw [h] at hr
      injection hr with hr _
      subst hr
      exact .inr ⟨_, rfl, Nat.le_refl _⟩
theorem wpList_appStr {ops : Array Oper} {rest : List Oper} {o : Oper} {a : Act} {Q : Exit → Act → World → Prop} {w : World} (hgd : o.guard = none) (sl x : Operand)
    (ho : o.op = .call { callee := .builtin .append, args := #[sl, x], argTypes := #[116, 9] })
    (B : Nat) (v : Value) (l s : List UInt8) (hs : a.eval sl = v) (hown : w.ownsRow B 5 1 v (Lib.byteCells l).length (Lib.byteCells l)) (hx : a.eval x = .string ⟨s.toArray⟩) (hlen : l.length + s.length ≤ 140737488355328) (hB : B ≤ w.heap.size)
    (h : ∀ v' w', w'.ownsRow B 5 1 v' (Lib.byteCells (l ++ s)).length (Lib.byteCells (l ++ s)) → w.grownBy w' v.ownBlock → (v'.ownBlock = v.ownBlock ∨ ∃ k, v'.ownBlock = some k ∧ w.heap.size ≤ k) → wpList Tryz.prog ops Q rest (a.put o.dst v') w') : wpList Tryz.prog ops Q (o :: rest) a w := by
  refine wpList_plain hgd fun K hK => ?_
  obtain ⟨i, hi, hz, hsz, hby⟩ := info_parts (show (Tryz.prog.info? 5).map (fun i => (i.zero, i.size, i.bytes)) = some (some (.int .u8 0), 1, 1) by kernel_rfl)
  have hn : (Lib.byteCells l).length = l.length := by unfold Lib.byteCells; simp
  have e1 : (⟨s.toArray⟩ : ByteArray).size = s.length := rfl
  obtain ⟨v', w', hr, h2, h3, h4⟩ := Lib.run_append_own_string (P := Tryz.prog) w B 116 9 o.type 5 i Tryz.underlying116 Tryz.underlying9 hi hz hsz hby v _ _ hown ⟨s.toArray⟩ (by rw [hn, e1]; unfold maxLen; omega) (by rw [hn, e1]; exact hlen) hB
  have h5 := append_row Tryz.underlying116 Tryz.underlying9 hi hz hsz hby hown ⟨s.toArray⟩ (by rw [hn, e1]; unfold maxLen; omega) (by rw [hn, e1]; exact hlen) hr h4
  unfold Oper.wp execOp
  simp only [ho, resolve, invoke, builtin, Sem.run_bind, Sem.run_pure, Result.andThen_ok, List.map_toArray, List.map_cons, List.map_nil, hs, hx, hr]
  refine hK _ _ (h v' w' ?_ h3 h5)
  have hn2 : (Lib.byteCells s).length = s.length := by unfold Lib.byteCells; simp
  rw [byteCells_app, List.length_append, hn2]
  exact h2
set_option maxHeartbeats 2000000 in
set_option maxRecDepth 100000 in
set_option linter.unusedSimpArgs false in
theorem xwriteS (B b : Nat) (r : Option Nat) (l s : List UInt8) (w : World) (h : BldR B b r l w) (hlen : l.length + s.length ≤ 140737488355328) : Calls Tryz.prog 73 #[.pointer (some ⟨b, 0, none⟩), .string ⟨s.toArray⟩] w (WrP B b r l s w) := by
  have HC := Lib.hid (copy_any B b r l w h)
  have hlt := h.lt
  obtain ⟨E, hEE⟩ : ∃ E, E = WrP B b r l s w := ⟨_, rfl⟩
  rw [← hEE]
  have HEE := Lib.hid hEE
  clear hEE h
  go_enter Tryz.func73, Tryz.ntmps73
  go_wp2_with fail
  refine HC.out.mono ?_
  rintro e w1 ⟨rfl, hbr, v, hb1, ho, hr, hne⟩
  have c0 := xat hb1 0
  have c1 := xat hb1 1
  simp only [List.getElem?_toArray, List.getElem?_cons_zero, List.getElem?_cons_succ] at c0 c1
  have HB1 := Lib.hid hb1
  have HBR := Lib.hid hbr
  have HR := Lib.hid hr
  have HNE := Lib.hid hne
  have hB1 : B ≤ w1.heap.size := by have := hbr.size; omega
  clear hb1 hbr hr hne HC
  go_wp2_with (at_builtin; refine wpList_appStr rfl _ _ rfl B v l s rfl ho rfl hlen hB1 ?_)
  intro v' w2 ho2 hg2 hn2
  have h1b := xlt HB1.out
  have hb2 := (hg2.block b h1b (fun e => HNE.out (by rw [← HR.out]; exact e.symm))).trans HB1.out
  have d0 := xat hb2 0
  have d1 := xat hb2 1
  have f1 := xfree hb2 1
  simp only [List.getElem?_toArray, List.getElem?_cons_zero, List.getElem?_cons_succ] at d0 d1
  have HEnd := Lib.hid (wr_end hlt.1 HBR.out HB1.out HR.out HNE.out ho2 hg2 hn2)
  obtain ⟨A', n', cap', hv'⟩ : ∃ A n cap, v' = .slice A n cap := by
    rcases ho2.2 with ⟨hv, _⟩ | ⟨g, cap, cur, hv, _⟩
    · exact ⟨_, _, _, hv⟩
    · exact ⟨_, _, _, hv⟩
  subst hv'
  clear hb2 ho hg2 hn2 ho2 c0 c1
  go_wp2
  rw [HEE.out]
  exact ⟨rfl, HEnd.out⟩
theorem BW.at {w w' : World} {h : Nat} {s : List UInt8} (hb : BW w h s) (hs : w.heap.size ≤ w'.heap.size) (he : w'.heap[h]? = w.heap[h]?) : BW w' h s :=
  ⟨Nat.lt_of_lt_of_le hb.1 hs, fun j c hj => ⟨(cell_eq he j).trans (hb.2 j c hj).1, by rw [← (hb.2 j c hj).2]; unfold World.frozen?; simp [he]⟩⟩
theorem wpList_appBy {ops : Array Oper} {rest : List Oper} {o : Oper} {a : Act} {Q : Exit → Act → World → Prop} {w : World} (hgd : o.guard = none) (sl x : Operand)
    (ho : o.op = .call { callee := .builtin .append, args := #[sl, x], argTypes := #[116, 116] })
    (B : Nat) (v : Value) (l s : List UInt8) (hs : a.eval sl = v) (hown : w.ownsRow B 5 1 v (Lib.byteCells l).length (Lib.byteCells l)) (h m c : Nat) (hx : a.eval x = .slice (some ⟨h, 0, none⟩) m c) (hm : m = s.length) (hbw : BW w h s) (hlen : l.length + s.length ≤ 140737488355328) (hB : B ≤ w.heap.size)
    (hK : ∀ v' w', w'.ownsRow B 5 1 v' (Lib.byteCells (l ++ s)).length (Lib.byteCells (l ++ s)) → w.grownBy w' v.ownBlock → (v'.ownBlock = v.ownBlock ∨ ∃ k, v'.ownBlock = some k ∧ w.heap.size ≤ k) → wpList Tryz.prog ops Q rest (a.put o.dst v') w') : wpList Tryz.prog ops Q (o :: rest) a w := by
  subst hm
  refine wpList_plain hgd fun K hK2 => ?_
  obtain ⟨i, hi, hz, hsz, hby⟩ := info_parts (show (Tryz.prog.info? 5).map (fun i => (i.zero, i.size, i.bytes)) = some (some (.int .u8 0), 1, 1) by kernel_rfl)
  have hn : (Lib.byteCells l).length = l.length := by unfold Lib.byteCells; simp
  have hn2 : (Lib.byteCells s).length = s.length := by unfold Lib.byteCells; simp
  obtain ⟨v', w', hr, h2, h3, h4, h5⟩ := run_append_own_at (P := Tryz.prog) w B 116 o.type 5 i (.int .u8 0) 1 1 Tryz.underlying116 hi hz hsz hby rfl (by omega) v _ _ hown ⟨h, 0, none⟩ s.length c (Lib.byteCells s) (by rw [hn2, Nat.mul_one])
    (fun j u hu => by
      rw [add_eq, Nat.zero_add]
      unfold Lib.byteCells at hu
      rw [List.getElem?_map] at hu
      obtain ⟨b, hb, rfl⟩ := Option.map_eq_some_iff.1 hu
      exact (hbw.2 j b hb).1)
    (fun u hu => by
      unfold Lib.byteCells at hu
      obtain ⟨b, -, rfl⟩ := List.mem_map.1 hu
      rfl) (by rw [hn]; unfold maxLen; omega) (by rw [hn]; omega) hB
  unfold Oper.wp execOp
  simp only [ho, resolve, invoke, builtin, Sem.run_bind, Sem.run_pure, Result.andThen_ok, List.map_toArray, List.map_cons, List.map_nil, hs, hx, hr]
  refine hK2 _ _ (hK v' w' ?_ h3 (h5.imp id fun e => ⟨_, e, Nat.le_refl _⟩))
  rw [byteCells_app, List.length_append, hn2]
  exact h2
set_option maxHeartbeats 2000000 in
set_option maxRecDepth 100000 in
set_option linter.unusedSimpArgs false in
theorem xwriteB (B b : Nat) (r : Option Nat) (l s : List UInt8) (h c : Nat) (w : World) (hbl : BldR B b r l w) (hbw : BW w h s) (hne : h ≠ b) (hnr : some h ≠ r) (hlen : l.length + s.length ≤ 140737488355328) : Calls Tryz.prog 233 #[.pointer (some ⟨b, 0, none⟩), .slice (some ⟨h, 0, none⟩) s.length c] w (WrP B b r l s w) := by
  have HC := Lib.hid (copy_any B b r l w hbl)
  have hlt := hbl.lt
  obtain ⟨E, hEE⟩ : ∃ E, E = WrP B b r l s w := ⟨_, rfl⟩
  rw [← hEE]
  have HEE := Lib.hid hEE
  have HBW := Lib.hid hbw
  clear hEE hbl hbw
  go_enter Tryz.func233, Tryz.ntmps233
  go_wp2_with fail
  refine HC.out.mono ?_
  rintro e w1 ⟨rfl, hbr, v, hb1, ho, hr, hne2⟩
  have c0 := xat hb1 0
  have c1 := xat hb1 1
  simp only [List.getElem?_toArray, List.getElem?_cons_zero, List.getElem?_cons_succ] at c0 c1
  have HB1 := Lib.hid hb1
  have HBR := Lib.hid hbr
  have HR := Lib.hid hr
  have HNE := Lib.hid hne2
  have HBW1 := Lib.hid (HBW.out.at hbr.size (hbr.block h HBW.out.1 hne hnr))
  have hB1 : B ≤ w1.heap.size := by have := hbr.size; omega
  clear hb1 hbr hr hne2 HC
  go_wp2_with (at_builtin; refine wpList_appBy rfl _ _ rfl B v l s rfl ho h s.length c rfl rfl HBW1.out hlen hB1 ?_)
  intro v' w2 ho2 hg2 hn2
  have h1b := xlt HB1.out
  have hb2 := (hg2.block b h1b (fun e => HNE.out (by rw [← HR.out]; exact e.symm))).trans HB1.out
  have d0 := xat hb2 0
  have d1 := xat hb2 1
  have f1 := xfree hb2 1
  simp only [List.getElem?_toArray, List.getElem?_cons_zero, List.getElem?_cons_succ] at d0 d1
  have HEnd := Lib.hid (wr_end hlt.1 HBR.out HB1.out HR.out HNE.out ho2 hg2 hn2)
  obtain ⟨A', n', cap', hv'⟩ : ∃ A n cap, v' = .slice A n cap := by
    rcases ho2.2 with ⟨hv, _⟩ | ⟨g, cap, cur, hv, _⟩
    · exact ⟨_, _, _, hv⟩
    · exact ⟨_, _, _, hv⟩
  subst hv'
  clear hb2 ho hg2 hn2 ho2 c0 c1
  go_wp2
  rw [HEE.out]
  exact ⟨rfl, HEnd.out⟩
end Go.Proofs.YtjkiehmjffgnlaaGreatDoor
namespace Go.Proofs.YtjkiehmjffgnlaaGreatDoor
set_option linter.unusedVariables false
set_option linter.unusedSimpArgs false

abbrev Pairs := List (UInt8 × List UInt8)
def tblF : Pairs → UInt8 → Option (List UInt8)
  | [], _ => none
  | p :: r, c => if p.1 = c then some p.2 else tblF r c
def repF (ps : Pairs) (c : UInt8) : List UInt8 := (tblF ps c).getD [c]
def repP (ps : Pairs) (s : List UInt8) : List UInt8 := s.flatMap (repF ps)
def psT : Pairs := [(38, [38, 97, 109, 112, 59]), (60, [38, 108, 116, 59]), (62, [38, 103, 116, 59]), (13, [38, 35, 49, 51, 59])]
def psV : Pairs := [(38, [38, 97, 109, 112, 59]), (60, [38, 108, 116, 59]), (34, [38, 113, 117, 111, 116, 59]), (9, [38, 35, 57, 59]), (10, [38, 35, 49, 48, 59]), (13, [38, 35, 49, 51, 59])]
theorem repF_T (c : UInt8) : repF psT c = escT c := by
  unfold repF psT escT
  simp only [tblF, eq_comm (b := c)]
  repeat' split
  all_goals rfl
theorem repF_V (c : UInt8) : repF psV c = escV c := by
  unfold repF psV escV
  simp only [tblF, eq_comm (b := c)]
  repeat' split
  all_goals rfl
theorem repP_T (s : List UInt8) : repP psT s = s.flatMap escT := by unfold repP; congr 1; funext c; exact repF_T c
theorem repP_V (s : List UInt8) : repP psV s = s.flatMap escV := by unfold repP; congr 1; funext c; exact repF_V c
structure GoodQ (ps : Pairs) : Prop where
  nodup : (ps.map (·.1)).Nodup
  pos : ∀ p ∈ ps, 1 ≤ p.2.length ∧ p.2.length ≤ 6
  few : ps.length ≤ 6
theorem goodT_P : GoodQ psT := ⟨by decide, by decide, by decide⟩
theorem goodV_P : GoodQ psV := ⟨by decide, by decide, by decide⟩
theorem tblF_mem {ps : Pairs} {c : UInt8} {l : List UInt8} (h : tblF ps c = some l) : (c, l) ∈ ps := by
  induction ps with
  | nil => cases h
  | cons p r ih =>
    unfold tblF at h
    split at h
    · rename_i e
      injection h with h
      subst e h
      exact List.mem_cons_self ..
    · exact List.mem_cons_of_mem _ (ih h)
theorem tblF_none {ps : Pairs} {c : UInt8} (h : ∀ p ∈ ps, p.1 ≠ c) : tblF ps c = none := by
  induction ps with
  | nil => rfl
  | cons p r ih =>
    unfold tblF
    rw [if_neg (h p (List.mem_cons_self ..))]
    exact ih fun q hq => h q (List.mem_cons_of_mem _ hq)
theorem GoodQ.tail {p : UInt8 × List UInt8} {r : Pairs} (h : GoodQ (p :: r)) : GoodQ r := by
  have := h.nodup
  rw [List.map_cons, List.nodup_cons] at this
  exact ⟨this.2, fun q hq => h.pos q (List.mem_cons_of_mem _ hq), by have := h.few; simp at this; omega⟩
theorem GoodQ.head {p : UInt8 × List UInt8} {r : Pairs} (h : GoodQ (p :: r)) : tblF r p.1 = none := by
  have := h.nodup
  rw [List.map_cons, List.nodup_cons] at this
  exact tblF_none fun q hq e => this.1 (List.mem_map.2 ⟨q, hq, e⟩)
theorem repF_len {ps : Pairs} (h : GoodQ ps) (c : UInt8) : 1 ≤ (repF ps c).length ∧ (repF ps c).length ≤ 6 := by
  unfold repF
  cases e : tblF ps c with
  | none => simp
  | some l => exact h.pos _ (tblF_mem e)
theorem repP_cons (ps : Pairs) (c : UInt8) (s : List UInt8) : repP ps (c :: s) = repF ps c ++ repP ps s := by unfold repP; rw [List.flatMap_cons]
theorem repP_app (ps : Pairs) (a b : List UInt8) : repP ps (a ++ b) = repP ps a ++ repP ps b := by unfold repP; rw [List.flatMap_append]
theorem repP_len6 {ps : Pairs} (h : GoodQ ps) : ∀ s : List UInt8, (repP ps s).length ≤ 6 * s.length
  | [] => Nat.le_refl _
  | c :: s => by
    have := repP_len6 h s
    have := (repF_len h c).2
    rw [repP_cons, List.length_append, List.length_cons]
    omega
theorem repP_same {ps : Pairs} {s : List UInt8} (h : ∀ c ∈ s, tblF ps c = none) : repP ps s = s := by
  induction s with
  | nil => rfl
  | cons c s ih =>
    rw [repP_cons, ih fun d hd => h d (List.mem_cons_of_mem _ hd)]
    unfold repF
    rw [h c (List.mem_cons_self ..)]
    rfl
def moreS (ps : Pairs) (s : List UInt8) : Nat := (ps.map fun p => s.count p.1 * (p.2.length - 1)).sum
theorem more_cons (ps : Pairs) (c : UInt8) (s : List UInt8) : moreS ps (c :: s) = moreS ps s + (ps.map fun p => if c = p.1 then p.2.length - 1 else 0).sum := by
  unfold moreS
  induction ps with
  | nil => rfl
  | cons p r ih =>
    simp only [List.map_cons, List.sum_cons]
    rw [ih, List.count_cons]
    by_cases h : c = p.1
    · subst h
      simp [Nat.add_mul]
      omega
    · have : (c == p.1) = false := beq_eq_false_iff_ne.2 h
      simp [this, h]
      omega
theorem more_one {ps : Pairs} (h : GoodQ ps) (c : UInt8) : (ps.map fun p => if c = p.1 then p.2.length - 1 else 0).sum + 1 = (repF ps c).length := by
  induction ps with
  | nil => rfl
  | cons p r ih =>
    have hh := h.head
    have ih := ih h.tail
    simp only [List.map_cons, List.sum_cons]
    unfold repF tblF
    by_cases e : p.1 = c
    · subst e
      rw [if_pos rfl, if_pos rfl]
      have hp := h.pos p (List.mem_cons_self ..)
      unfold repF at ih
      rw [hh] at ih
      simp only [Option.getD_none, List.length_singleton] at ih
      simp only [Option.getD_some]
      omega
    · rw [if_neg (fun e' => e e'.symm), if_neg e]
      unfold repF at ih
      omega
theorem repP_more {ps : Pairs} (h : GoodQ ps) : ∀ s : List UInt8, (repP ps s).length = s.length + moreS ps s
  | [] => by unfold moreS repP; simp; induction ps with
    | nil => rfl
    | cons p r ih => simp at ih ⊢; exact ih h.tail
  | c :: s => by
    have h1 := repP_more h s
    have h2 := more_one h c
    rw [repP_cons, List.length_append, more_cons, List.length_cons]
    omega
theorem more_rev (ps : Pairs) (s : List UInt8) : moreS ps.reverse s = moreS ps s := by
  unfold moreS
  rw [List.map_reverse, List.sum_reverse]
theorem more_app (a b : Pairs) (s : List UInt8) : moreS (a ++ b) s = moreS a s + moreS b s := by
  unfold moreS
  rw [List.map_append, List.sum_append]
theorem count_none {ps : Pairs} {s : List UInt8} (h : ∀ p ∈ ps, s.count p.1 = 0) : repP ps s = s := by
  refine repP_same fun c hc => tblF_none fun p hp e => ?_
  have := h p hp
  rw [List.count_eq_zero, e] at this
  exact this hc
end Go.Proofs.YtjkiehmjffgnlaaGreatDoor

/-
  Parts of the walks and plain laws of layer 10, joined: AskFn AskFr. Conditions: as each theorem states them.
-/
import Derived.Test.YtdnjiemclhbccaaGreatDoorXmlZ37
import Derived.Deep.RegionHeld3
import Derived.Test.YtdnjiemclhbccaaGreatDoorXmlZ35
/-! AskFn -/
namespace Go.Proofs.YtdnjiemclhbccaaGreatDoor
set_option linter.unusedVariables false
set_option linter.unusedSimpArgs false
open Go.RowKit

theorem name_node (P : Nat → Prop) (w : World) (p : PropT) : NodeP P w [.string ⟨#[]⟩, .string ⟨p.space.toArray⟩, .string ⟨p.name.toArray⟩, .slice none 0 0, .slice none 0 0] (nameN p) := NodeP.of (t := []) (s := p.space) (n := p.name) (ats := []) (ks := []) (TabP.nil _ _ _ _) (TabP.nil _ _ _ _)
theorem two3_len (k : Nat) : (two3 k).length ≤ 8 := by
  unfold two3
  split
  · decide
  · split <;> decide
/-- what the first loop keeps. -/
structure FnS (w2 : World) (q : Nat) (i : Nat) (names : List PropT) (wr : World) (kv v6 : Value) (want : List PropT) : Prop where
  at_ : wr.heap[q]? = some (.cells #[.string ⟨#[]⟩, .string ⟨#[68, 65, 86, 58]⟩, .string ⟨#[112, 114, 111, 112]⟩, .slice none 0 0, kv] 26 (0, 0))
  kids : RowG 26 5 NodeP (fun _ => False) w2.heap.size wr kv ((names.take i).map nameN)
  row : RowG 46 2 PropR (fun _ => False) w2.heap.size wr v6 want
  apart : ∀ k, kv.ownBlock = some k → v6.ownBlock ≠ some k
  fr : Below q w2 wr
  sz : w2.heap.size ≤ wr.heap.size
  lt : q < w2.heap.size
  wl : want.length ≤ i
theorem FnS.under {w2 wr w' : World} {q i : Nat} {names want : List PropT} {kv v6 : Value} (h : FnS w2 q i names wr kv v6 want) (hb : Below wr.heap.size wr w') : FnS w2 q i names w' kv v6 want :=
  ⟨(hb.block _ (xlt h.at_)).trans h.at_, h.kids.under mov_node hb, h.row.under mov_prop hb, h.apart, h.fr.trans (hb.mono (by have := xlt h.at_; omega)), Nat.le_trans h.sz hb.size, h.lt, h.wl⟩
/-- a name has been laid into the tree. -/
theorem fn_kids {w2 wr w9 : World} {q i kc : Nat} {names want : List PropT} {kA : Option Addr} {u6 v9 : Value} {ks : List NodeT} (HS : FnS w2 q i names wr (.slice kA i kc) u6 want) (hk : ks = (names.take (i + 1)).map nameN)
    (hr : RowG 26 5 NodeP (fun _ => False) w2.heap.size w9 v9 ks) (hb : Below w2.heap.size wr.drew w9) (hg : wr.drew.grownBy w9 (Value.slice kA i kc).ownBlock) (hn : v9.ownBlock = (Value.slice kA i kc).ownBlock ∨ ∃ k, v9.ownBlock = some k ∧ wr.drew.heap.size ≤ k)
    (hq : w9.heap[q]? = some (.cells #[.string ⟨#[]⟩, .string ⟨#[68, 65, 86, 58]⟩, .string ⟨#[112, 114, 111, 112]⟩, .slice none 0 0, .slice kA i kc] 26 (0, 0))) : FnS w2 q (i + 1) names (w9.setCell ⟨q, 4, none⟩ v9) v9 u6 want := by
  have hrow : RowG 46 2 PropR (fun _ => False) w2.heap.size wr.drew u6 want := HS.row.draws mov_prop 1
  have hap := apart_app (w := wr.drew) (fun k hk => (hrow.lt k hk).2) HS.apart hn
  have hlt := HS.lt
  refine ⟨heap_setCell_same w9 q 4 _ _ _ hq, ?_, (hrow.beside mov_prop hg HS.apart).step mov_prop (xgrown_cell w9 q 4 _) (fun h => h) (fun e => by have := (hrow.lt _ e).1; omega), hap, ?_, ?_, hlt, by have := HS.wl; omega⟩
  · rw [← hk]
    exact hr.step mov_node (xgrown_cell w9 q 4 _) (fun h => h) (fun e => by have := (hr.lt _ e).1; omega)
  · exact ((HS.fr.trans (below_draws (Below.refl _ _) 1)).trans (hb.mono (by omega))).setCell (p := ⟨q, 4, none⟩) (Nat.le_refl _) _
  · have := HS.sz; have h2 := hb.size; have h3 : wr.drew.heap.size = wr.heap.size := rfl; rw [World.size_setCell]; omega
/-- a name has been laid into the list. -/
theorem fn_want {w2 wr w9 : World} {q i : Nat} {names want : List PropT} {kv v6 v9 : Value} {p : PropT} (HS : FnS w2 q (i + 1) names wr kv v6 want) (hr : RowG 46 2 PropR (fun _ => False) w2.heap.size w9 v9 (want ++ [p])) (hb : Below w2.heap.size wr w9) (hg : wr.grownBy w9 v6.ownBlock) (hn : v9.ownBlock = v6.ownBlock ∨ ∃ k, v9.ownBlock = some k ∧ wr.heap.size ≤ k) (hwl : want.length ≤ i) : FnS w2 q (i + 1) names w9 kv v9 (want ++ [p]) := by
  have hlt := HS.lt
  have hap : ∀ k, v6.ownBlock = some k → kv.ownBlock ≠ some k := fun k hk e => HS.apart k e hk
  refine ⟨(hg.block q (xlt HS.at_) (fun e => by have := (HS.row.lt _ e.symm).1; omega)).trans HS.at_, HS.kids.beside mov_node hg hap, hr, fun k hk e => apart_app (fun k hk => (HS.kids.lt k hk).2) hap hn k e hk, HS.fr.trans (hb.mono (by omega)), Nat.le_trans HS.sz hb.size, hlt, by simp only [List.length_append, List.length_cons, List.length_nil]; omega⟩
set_option maxHeartbeats 64000000 in
set_option maxRecDepth 100000 in
set_option linter.unusedSimpArgs false in
theorem law_finds (names : List PropT) (two : Nat) (v : Value) (w : World) (hv : Tab 2 (PropR anyB) w v names) (h2 : two ≤ 255) (hbk : bulkTL (names.map nameN) ≤ 1400000) (hlen : names.length ≤ 400000) (hE : XEnv w) :
    Calls Tryz.prog 5 #[v, .int .u8 (two : Int)] w (Ret (.bool true) w) := by
  obtain ⟨E, hEE⟩ : ∃ E, E = Ret (.bool true) w := ⟨_, rfl⟩
  rw [← hEE]
  have HEE := Lib.hid hEE
  have HE := Lib.hid hE
  have HFx := Lib.hid (afixed_any w hE)
  obtain ⟨nA, nc, rfl⟩ := tab_shape hv
  obtain ⟨-, hnc, hnm, hnk⟩ := props_at hv
  unfold maxLen at hnm
  have HNk := Lib.hid hnk
  have HBk := Lib.hid hbk
  clear hEE hE hv hnk hbk
  go_enter Tryz.func5, Tryz.ntmps5
  go_wp2_with fail
  refine HFx.out.mono ?_
  rintro e w1 ⟨rfl, hb1⟩
  have HB1 := Lib.hid hb1
  clear hb1 HFx
  obtain ⟨hb2, -, hq2⟩ := two_alloc w1 (.cells #[.string ⟨#[]⟩, .string ⟨#[68, 65, 86, 58]⟩, .string ⟨#[112, 114, 111, 112]⟩, .slice none 0 0, .slice none 0 0] 26 (0, 0)) (.cells #[.string ⟨#[]⟩, .string ⟨#[68, 65, 86, 58]⟩, .string ⟨#[112, 114, 111, 112]⟩, .slice none 0 0, .slice none 0 0] 26 (0, 0))
  have hz2 : ((w1.alloc (.cells #[.string ⟨#[]⟩, .string ⟨#[68, 65, 86, 58]⟩, .string ⟨#[112, 114, 111, 112]⟩, .slice none 0 0, .slice none 0 0] 26 (0, 0))).alloc (.cells #[.string ⟨#[]⟩, .string ⟨#[68, 65, 86, 58]⟩, .string ⟨#[112, 114, 111, 112]⟩, .slice none 0 0, .slice none 0 0] 26 (0, 0))).heap.size = w1.heap.size + 1 + 1 := (World.size_alloc ..).trans (by rw [World.size_alloc])
  have HB2 := Lib.hid (HB1.out.trans (hb2.mono HB1.out.size))
  have HQ2 := Lib.hid hq2
  have HZ2 := Lib.hid hz2
  clear hb2 hq2 hz2
  go_upto_region 4 with (go_at_call 22; refine (adav_ex _ _ _ _ _).mono ?_; rintro e w4 ⟨rfl, rfl⟩)
  generalize (w1.alloc (.cells #[.string ⟨#[]⟩, .string ⟨#[68, 65, 86, 58]⟩, .string ⟨#[112, 114, 111, 112]⟩, .slice none 0 0, .slice none 0 0] 26 (0, 0))).alloc (.cells #[.string ⟨#[]⟩, .string ⟨#[68, 65, 86, 58]⟩, .string ⟨#[112, 114, 111, 112]⟩, .slice none 0 0, .slice none 0 0] 26 (0, 0)) = w2 at *
  obtain ⟨q, hq⟩ : ∃ q, q = w1.heap.size + 1 := ⟨_, rfl⟩
  have hqlt : q < w2.heap.size := by rw [HZ2.out]; omega
  have hqw : w.heap.size ≤ q := by have := HB1.out.size; omega
  rw [← hq] at HQ2 ⊢
  clear hq HZ2 HB1
  obtain ⟨WANT, hW⟩ : ∃ W, W = onceP names := ⟨_, rfl⟩
  have HW := Lib.hid (show (names.drop 0).foldl addP [] = WANT by rw [hW]; rfl)
  have HWe := Lib.hid hW
  clear hW
  go_wp2_with fail
  go_loopg [6, 7] names.length (fun gk v6 v7 wr => ∃ (i : Nat) (kv : Value) (want : List PropT), i + gk = names.length ∧ v7 = .int .i64 i ∧ Hid (FnS w2 q i names wr kv v6 want) ∧ Hid ((names.drop i).foldl addP want = WANT))
  case atStart => exact ⟨0, .slice none 0 0, [], by omega, rfl, Lib.hid ⟨HQ2.out, RowG.nil _ _ _ _ _ _, RowG.nil _ _ _ _ _ _, (fun k h => by cases h), Below.refl _ _, Nat.le_refl _, hqlt, Nat.le_refl _⟩, HW⟩
  case round =>
    obtain ⟨i, kv, want, hig, rfl, HS, HAns⟩ := hrel
    clear HW
    have HBr := Lib.hid (HB2.out.trans (HS.out.fr.mono hqw))
    obtain ⟨kA, kc, hkv, hkc1, hkc2⟩ := HS.out.kids.form
    unfold maxLen at hkc2
    have hkl : ((names.take i).map nameN).length = i := by rw [List.length_map, List.length_take]; omega
    rw [hkl] at hkv hkc1
    subst hkv
    rcases hd : names.drop i with _ | ⟨p, rest⟩
    · have hi2 : i = names.length := by have := drop_nil hd; omega
      subst hi2
      obtain rfl : want = WANT := by have := HAns.out; rw [hd] at this; exact this
      clear hd HAns
      have hkids : NodesP anyB wr (.slice kA names.length kc) (names.map nameN) := by
        have h := HS.out.kids.tab mov_node
        rw [List.take_length] at h
        exact TabP.any h
      have HKi := Lib.hid hkids
      have HQr := Lib.hid HS.out.at_
      have HRw := Lib.hid HS.out.row
      have hql : q < wr.heap.size := xlt HS.out.at_
      have ht0 : bulkT (davN wProp (names.map nameN)) ≤ 1400100 := by rw [bulk_dav]; have := HBk.out; show 4 + 7 + _ ≤ _; omega
      have hT1 := small_tree (n := davN wFind [propN names]) (by rw [bulk_dav, bulkTL_one]; show 8 + 7 + (bulkT (davN wProp (names.map nameN)) + 1) ≤ _; omega)
      have HT2 := Lib.hid (fun k => small_tree (n := davN wFind [propN names, davN (two3 k) []]) (by
        have h3 := two3_len k
        rw [bulk_dav, bulkTL, bulkTL_one, bulk_dav (two3 k), bulkTL]; show 8 + 7 + (bulkT (davN wProp (names.map nameN)) + 1 + ((two3 k).length + 7 + 0 + 1)) ≤ _; omega))
      obtain ⟨hb4, ha4, -⟩ := two_alloc wr (.cells #[.string ⟨#[]⟩, .string ⟨#[68, 65, 86, 58]⟩, .string ⟨#[112, 114, 111, 112]⟩, .slice none 0 0, .slice kA names.length kc] 26 (0, 0)) (.cells #[.string ⟨#[]⟩, .string ⟨#[68, 65, 86, 58]⟩, .string ⟨#[112, 114, 111, 112, 102, 105, 110, 100]⟩, .slice none 0 0, .slice (some ⟨wr.heap.size, 0, none⟩) 1 1] 26 (0, 0))
      have HB4 := Lib.hid (HBr.out.trans (hb4.mono HBr.out.size))
      have HW1 := Lib.hid (show Calls Tryz.prog 16 #[.agg #[.string ⟨#[]⟩, .string ⟨#[68, 65, 86, 58]⟩, .string ⟨#[112, 114, 111, 112, 102, 105, 110, 100]⟩, .slice none 0 0, .slice (some ⟨wr.heap.size, 0, none⟩) 1 1]] _ (WrV (writeX (davN wFind [propN names])) _) from
        awrite_dav wFind [propN names] (some ⟨wr.heap.size, 0, none⟩) 1 1 _ (row1 (cs := [.string ⟨#[]⟩, .string ⟨#[68, 65, 86, 58]⟩, .string ⟨#[112, 114, 111, 112]⟩, .slice none 0 0, .slice kA names.length kc]) ha4 rfl (NodeP.of (t := []) (s := wDav) (n := wProp) (ats := []) (TabP.nil _ _ _ _) (hkids.under hb4))) ⟨hT1.1, hT1.2.1⟩ (HE.out.below HB4.out))
      have HQ4 := Lib.hid ((hb4.block _ hql).trans HS.out.at_)
      have HF4 := Lib.hid hb4
      have y0 := xat HS.out.at_ 0
      have y1 := xat HS.out.at_ 1
      have y2 := xat HS.out.at_ 2
      have y3 := xat HS.out.at_ 3
      have y4 := xat HS.out.at_ 4
      simp only [List.getElem?_toArray, List.getElem?_cons_zero, List.getElem?_cons_succ] at y0 y1 y2 y3 y4
      obtain ⟨X1, hX1⟩ : ∃ X, X = writeX (davN wFind [propN names]) := ⟨_, rfl⟩
      rw [← hX1] at HW1
      have HX1 := Lib.hid hX1
      clear hkids ht0 hT1 hb4 ha4 hX1 HS hkl hkc1
      go_wp2_with (first | (go_at_call 22; refine (adav_ex _ _ _ _ _).mono ?_; rintro e w4 ⟨rfl, rfl⟩) | (go_at_call 16; refine HW1.out.mono ?_; rintro e w6 ⟨hb6, rfl⟩))
      have HF6 := Lib.hid (HF4.out.trans (hb6.mono HF4.out.size))
      have HB6 := Lib.hid (HB4.out.trans (hb6.mono HB4.out.size))
      have HQ6 := Lib.hid ((hb6.block _ (xlt HQ4.out)).trans HQ4.out)
      clear hb6 HW1 y0 y1 y2 y3 y4 HQ4 HB4 HF4
      obtain ⟨j, hj⟩ : ∃ j, j = two % 3 := ⟨_, rfl⟩
      have hj3 : j ≤ 2 := by omega
      have m1 : (two : Int).tmod 3 = (j : Int) := by rw [hj]; rfl
      have m2 : IntKind.u8.wrap (j : Int) = (j : Int) := IntWalk.u8_in _ (by omega)
      have HK6 := Lib.hid (show NodesP anyB w6 (.slice kA names.length kc) (names.map nameN) from HKi.out.under HF6.out)
      obtain ⟨X2, hX2⟩ : ∃ X, X = writeX (davN wFind [propN names, davN (two3 j) []]) := ⟨_, rfl⟩
      have HX2 := Lib.hid hX2
      have HW2 := Lib.hid (fun (W : World) (B : Nat) (hb : Below w6.heap.size w6 W) (hB : W.heap[B]? = some (.cells #[.string ⟨#[]⟩, .string ⟨#[68, 65, 86, 58]⟩, .string ⟨#[112, 114, 111, 112]⟩, .slice none 0 0, .slice kA names.length kc, .string ⟨#[]⟩, .string ⟨#[68, 65, 86, 58]⟩, .string ⟨(two3 j).toArray⟩, .slice none 0 0, .slice none 0 0] 26 (0, 0))) =>
        (show Calls Tryz.prog 16 #[.agg #[.string ⟨#[]⟩, .string ⟨#[68, 65, 86, 58]⟩, .string ⟨#[112, 114, 111, 112, 102, 105, 110, 100]⟩, .slice none 0 0, .slice (some ⟨B, 0, none⟩) 2 2]] W (WrV X2 W) from by
          rw [hX2]
          refine awrite_dav wFind [propN names, davN (two3 j) []] (some ⟨B, 0, none⟩) 2 2 W (many_row (rows := [[.string ⟨#[]⟩, .string ⟨#[68, 65, 86, 58]⟩, .string ⟨#[112, 114, 111, 112]⟩, .slice none 0 0, .slice kA names.length kc], [.string ⟨#[]⟩, .string ⟨#[68, 65, 86, 58]⟩, .string ⟨(two3 j).toArray⟩, .slice none 0 0, .slice none 0 0]]) (xs := [propN names, davN (two3 j) []]) hB (by intro r hr; simp only [List.mem_cons, List.not_mem_nil, or_false] at hr; rcases hr with rfl | rfl <;> rfl) rfl (show 2 ≤ maxLen by unfold maxLen; decide) ?_ trivial) ⟨(HT2.out j).1, (HT2.out j).2.1⟩ (HE.out.below (HB6.out.trans (hb.mono HB6.out.size)))
          intro k r x hr hx
          match k, hr, hx with
          | 0, hr, hx => injection hr with hr; injection hx with hx; subst hr hx; exact NodeP.of (t := []) (s := wDav) (n := wProp) (ats := []) (TabP.nil _ _ _ _) (HK6.out.under hb)
          | 1, hr, hx => injection hr with hr; injection hx with hx; subst hr hx; exact NodeP.of (t := []) (s := wDav) (n := two3 j) (ats := []) (ks := []) (TabP.nil _ _ _ _) (TabP.nil _ _ _ _)
          | k + 2, hr, hx => simp at hr))
      have HE4 := Lib.hid (fun (a b c d : Obj) => (⟨below_draws (allocs_below [a, b, c, d] w6) 1, allocs_at [a, b, c, d] w6 2 c rfl⟩ : Below w6.heap.size w6 ((((w6.alloc a).alloc b).alloc c).alloc d).drew ∧ ((((w6.alloc a).alloc b).alloc c).alloc d).drew.heap[w6.heap.size + 1 + 1]? = some c))
      have HF6' := Lib.hid HF6.out
      clear hX2 hj HT2 HKi HQr HF6
      go_cut [12, 13] (fun v12 v13 wc => v12 = .string ⟨(okOr [] X2).toArray⟩ ∧ v13 = .int .i64 (errX X2) ∧ Hid (Below w6.heap.size w6 wc))
      case first =>
        have y0 := xat HQ6.out 0
        have y1 := xat HQ6.out 1
        have y2 := xat HQ6.out 2
        have y3 := xat HQ6.out 3
        have y4 := xat HQ6.out 4
        simp only [List.getElem?_toArray, List.getElem?_cons_zero, List.getElem?_cons_succ] at y0 y1 y2 y3 y4
        have hq6 : q < w6.heap.size := xlt HQ6.out
        clear HK6 HX1 HX2 HNk HBk HQ6
        rcases (show j = 0 ∨ j = 1 ∨ j = 2 by omega) with rfl | rfl | rfl
        all_goals
          first | go_region_with (first
            | (go_at_call 22; refine (adav_ex _ _ _ _ _).mono ?_; rintro e w4 ⟨rfl, rfl⟩)
            | (go_at_call 16; refine (HW2.out _ _ (HE4.out _ _ _ _).1 (HE4.out _ _ _ _).2).mono ?_; rintro e w8 ⟨hb8, rfl⟩)) | fail
          all_goals
            have HB8 := Lib.hid ((HE4.out _ _ _ _).1.trans (hb8.mono (HE4.out _ _ _ _).1.size))
            clear hb8
            go_wp2
            go_meet
            exact ⟨rfl, rfl, HB8⟩
      case rest =>
      obtain ⟨rfl, rfl, HB8⟩ := hcut
      obtain ⟨w8, hw8⟩ : ∃ w8, w8 = wc := ⟨_, rfl⟩
      subst hw8
      have HBw := Lib.hid (HB6.out.trans (HB8.out.mono HB6.out.size))
      have HR8 := Lib.hid (show RowG 46 2 PropR (fun _ => False) w2.heap.size w8 u6 want from HRw.out.under mov_prop (HF6'.out.trans (HB8.out.mono HF6'.out.size)))
      clear HB6 HB8 HQ6 HK6 HW2 HE4 HRw HF6' m1 m2 hj3
      rcases X1 with k1 | s
      · have hk1 := write_err HX1.out.symm
        rw [show errX (Except.error k1 : Except Int (List UInt8)) = k1 from rfl]
        clear HX1 HX2
        generalize okOr [] X2 = S2 at *
        generalize errX X2 = K2 at *
        rcases hk1 with rfl | rfl
        all_goals
          go_wp2
          rw [HEE.out]
          exact ⟨rfl, HBw.out⟩
      rw [show errX (Except.ok s : Except Int (List UInt8)) = 0 from rfl, show okOr [] (Except.ok s : Except Int (List UInt8)) = s from rfl]
      rcases X2 with k2 | t
      · have hk2 := write_err HX2.out.symm
        rw [show errX (Except.error k2 : Except Int (List UInt8)) = k2 from rfl]
        clear HX1 HX2
        generalize okOr [] (Except.error k2 : Except Int (List UInt8)) = S2 at *
        rcases hk2 with rfl | rfl
        all_goals
          go_wp2
          rw [HEE.out]
          exact ⟨rfl, HBw.out⟩
      rw [show errX (Except.ok t : Except Int (List UInt8)) = 0 from rfl, show okOr [] (Except.ok t : Except Int (List UInt8)) = t from rfl]
      obtain ⟨-, -, -, hl1⟩ := xread_back HX1.out.symm
      obtain ⟨-, -, -, hl2⟩ := xread_back HX2.out.symm
      have hft := find_two HX2.out.symm
      have hF1 := afind_any s w8 (by omega) (HE.out.below HBw.out)
      obtain ⟨F1, hF1e⟩ : ∃ F, F = askFind s := ⟨_, rfl⟩
      rw [← hF1e] at hF1
      have HF1e := Lib.hid hF1e
      have HF1 := Lib.hid hF1
      have HF2 := Lib.hid (fun w' (hb : Below w8.heap.size w8 w') => (show Calls Tryz.prog 24 #[.string ⟨t.toArray⟩] w' (fun e w'' => Below w'.heap.size w' w'' ∧ ∃ nA nc, e = .returned (.tuple #[.agg #[.int .i64 0, .slice nA 0 nc], .int .i64 50])) from by
        have h := afind_any t w' (by omega) ((HE.out.below HBw.out).below hb)
        rw [hft] at h
        exact h.mono fun e w'' ⟨h1, nA, nc, h2, _⟩ => ⟨h1, nA, nc, h2⟩))
      clear hl1 hl2 hft hF1e hF1 HX2
      go_wp2_with fail
      refine HF1.out.mono ?_
      rintro e w9 ⟨hb9, fA, fc, rfl, ht9⟩
      obtain ⟨kd, hkd⟩ : ∃ k, k = (okOr zeroF F1).kind := ⟨_, rfl⟩
      obtain ⟨er, her⟩ : ∃ k, k = errX F1 := ⟨_, rfl⟩
      obtain ⟨l1, hl1⟩ : ∃ l, l = (okOr zeroF F1).names := ⟨_, rfl⟩
      rw [← hkd, ← her, ← hl1]
      rw [← hl1] at ht9
      have HQs := Lib.hid (And.intro hkd (And.intro her hl1))
      have hb10 := (Below.refl w9.heap.size w9).alloc (Nat.le_refl _) (.cells #[.int .i64 kd, .slice fA l1.length fc] 49 (0, 0))
      have hb810 := hb9.trans (hb10.mono hb9.size)
      have HQ10 := Lib.hid (heap_alloc_new w9 (.cells #[.int .i64 kd, .slice fA l1.length fc] 49 (0, 0)))
      have HT10 := Lib.hid (show Tab 2 (PropR anyB) _ (.slice fA l1.length fc) l1 from Tab.below ht9 hb10 (Nat.le_refl _) fun _ _ h => h)
      have HB10 := Lib.hid hb810
      clear hb9 hb10 hb810 ht9 hkd her hl1 HF1
      go_wp2_with fail
      generalize w9.alloc (.cells #[.int .i64 kd, .slice fA l1.length fc] 49 (0, 0)) = w10 at *
      obtain ⟨qf, hqf⟩ : ∃ q, q = w9.heap.size := ⟨_, rfl⟩
      rw [← hqf] at HQ10 ⊢
      clear hqf
      refine (HF2.out w10 HB10.out).mono ?_
      rintro e w11 ⟨hb11, gA, gc, rfl⟩
      have hb12 := (Below.refl w11.heap.size w11).alloc (Nat.le_refl _) (.cells #[.int .i64 0, .slice gA 0 gc] 49 (0, 0))
      have hb1012 := hb11.trans (hb12.mono hb11.size)
      have HQ12 := Lib.hid ((hb1012.block _ (xlt HQ10.out)).trans HQ10.out)
      have HT12 := Lib.hid (show Tab 2 (PropR anyB) _ (.slice fA l1.length fc) l1 from Tab.below HT10.out hb1012 (Nat.le_refl _) fun _ _ h => h)
      have HB812 := Lib.hid (HB10.out.trans (hb1012.mono HB10.out.size))
      have HB12 := Lib.hid (HBw.out.trans (HB812.out.mono HBw.out.size))
      have HR12 := Lib.hid (HR8.out.under mov_prop HB812.out)
      clear hb11 hb12 hb1012 HQ10 HT10 HB10 HF2 HR8 HB812 HBw
      go_upto_region 22 with (fail)
      generalize w11.alloc (.cells #[.int .i64 0, .slice gA 0 gc] 49 (0, 0)) = w12 at *
      obtain ⟨vA, vc, hv6, hvc1, hvc2⟩ := HR12.out.form
      unfold maxLen at hvc2
      subst hv6
      go_wp2_with fail
      go_loopg [18] names.length (fun gk v18 wr => ∃ (i : Nat), i + gk = names.length ∧ v18 = .int .i64 i ∧ wr = w12 ∧ Hid (∀ p, p ∈ names.take i → p.name ≠ []))
      case atStart => exact ⟨0, by omega, rfl, rfl, Lib.hid (by intro p hp; simp at hp)⟩
      case round =>
        obtain ⟨i, hig3, rfl, rfl, HAll⟩ := hrel
        rcases hd : names.drop i with _ | ⟨p, rest⟩
        · have hi2 : i = names.length := by have := drop_nil hd; omega
          subst hi2
          have hall : ∀ p ∈ names, p.name ≠ [] := by have := HAll.out; rw [List.take_length] at this; exact this
          have hfr := find_read HX1.out.symm hall
          rw [← HF1e.out, ← HWe.out] at hfr
          clear hd HAll hall HX1 HF1e HNk
          obtain ⟨q1, q2, q3⟩ := HQs.out
          by_cases h32 : 32 < want.length
          · have i32 : (32 : Int) < want.length := by omega
            rw [if_pos h32] at hfr
            obtain rfl : er = 4 := by rw [q2, hfr]; rfl
            clear q1 q2 q3 hfr h32 HQs
            go_wp2
            rw [HEE.out]
            exact ⟨rfl, HB12.out⟩
          · have i32 : ¬ (32 : Int) < want.length := by omega
            rw [if_neg h32] at hfr
            obtain rfl : er = 0 := by rw [q2, hfr]; rfl
            obtain rfl : kd = 2 := by rw [q1, hfr]; rfl
            obtain rfl : l1 = want := by rw [q3, hfr]; rfl
            have x0 := xat HQ12.out 0
            have x1 := xat HQ12.out 1
            simp only [List.getElem?_toArray, List.getElem?_cons_zero, List.getElem?_cons_succ] at x0 x1
            have HSf := Lib.hid (asame_find l1 fA vA fc vc 2 _ HT12.out (HR12.out.tab mov_prop))
            clear q1 q2 q3 hfr h32 HQs HQ12 HT12 HR12 HWe
            go_wp2_with (go_at_call 25; refine HSf.out.mono ?_; rintro e w13 ⟨rfl, hb13⟩)
            rw [HEE.out]
            exact ⟨rfl, HB12.out.trans (hb13.mono HB12.out.size)⟩
        · obtain ⟨hlt, hx, hr⟩ := drop_consA hd
          obtain ⟨bn, on, rfl, hbl, e0, e1⟩ := HNk.out i p hx
          have d1 := (HB12.out.cell (p := ⟨bn, on + i * 2 + 1, none⟩) hbl).trans e1
          have k1 : (i : Int) < names.length := by omega
          have k2 : (0 : Int) ≤ i := by omega
          have HTa := Lib.hid (show names.take (i + 1) = names.take i ++ [p] by rw [List.take_add_one, hx]; rfl)
          clear hd hx hr e0 e1
          by_cases hn : p.name = []
          · have hn1 : (p.name == []) = true := by rw [hn]; rfl
            have hn2 : p.name.isEmpty = true := by rw [hn]; rfl
            clear hn
            go_wp2
            rw [HEE.out]
            exact ⟨rfl, HB12.out⟩
          · have hn1 : (p.name == []) = false := beq_eq_false_iff_ne.2 hn
            have hn2 : p.name.isEmpty = false := by cases h : p.name with | nil => exact absurd h hn | cons => rfl
            have HAll2 := Lib.hid (show ∀ x, x ∈ names.take (i + 1) → x.name ≠ [] by
              intro x hx
              rw [HTa.out] at hx
              rcases List.mem_append.1 hx with hx | hx
              · exact HAll.out x hx
              · rw [List.mem_singleton.1 hx]; exact hn)
            clear hn HAll HTa
            go_wp2
            go_roundg (gk - 1)
            case measure => omega
            case rel => exact ⟨i + 1, by omega, by go_num, rfl, HAll2⟩
    · obtain ⟨hlt, hx, hr⟩ := drop_consA hd
      obtain ⟨bn, on, rfl, hbl, e0, e1⟩ := HNk.out i p hx
      have d0 := (HBr.out.cell (p := ⟨bn, on + i * 2, none⟩) hbl).trans e0
      have d1 := (HBr.out.cell (p := ⟨bn, on + i * 2 + 1, none⟩) hbl).trans e1
      have k1 : (i : Int) < names.length := by omega
      have k2 : (0 : Int) ≤ i := by omega
      have HRe := Lib.hid hr
      have HAns2 := Lib.hid (show rest.foldl addP (addP want p) = WANT by have := HAns.out; rw [hd] at this; exact this)
      have HTk := Lib.hid (show (names.take i).map nameN ++ [nameN p] = (names.take (i + 1)).map nameN by rw [List.take_add_one, hx]; simp)
      have HNp := Lib.hid hbl
      have y4 := xat HS.out.at_ 4
      have f4 := xfree HS.out.at_ 4
      simp only [List.getElem?_toArray, List.getElem?_cons_zero, List.getElem?_cons_succ] at y4
      have HE0 := Lib.hid e0
      have HE1 := Lib.hid e1
      clear hd hx hr HAns e0 e1
      obtain ⟨ps, pn⟩ := p
      simp only at d0 d1
      have hsz := HS.out.sz
      have hrow : RowG 26 5 NodeP (fun _ => False) w2.heap.size wr.drew (.slice kA i kc) ((names.take i).map nameN) := HS.out.kids.draws mov_node 1
      have HRw := Lib.hid hrow
      have HLn := Lib.hid (show ((names.take i).map nameN ++ [nameN ⟨ps, pn⟩]).length = i + 1 by rw [List.length_append, hkl]; rfl)
      have HL1 := Lib.hid (show (((names.take i).map nameN).length + 1) * 96 ≤ 140737488355328 by rw [hkl]; omega)
      have HQg := Lib.hid (fun (w' : World) (hg : wr.drew.grownBy w' (Value.slice kA i kc).ownBlock) => (show w'.heap[q]? = some (.cells #[.string ⟨#[]⟩, .string ⟨#[68, 65, 86, 58]⟩, .string ⟨#[112, 114, 111, 112]⟩, .slice none 0 0, .slice kA i kc] 26 (0, 0)) from (hg.block q (show q < wr.heap.size from xlt HS.out.at_) (fun e => by have := (HS.out.kids.lt _ e.symm).1; have := HS.out.lt; omega)).trans HS.out.at_))
      have hqr : q < wr.heap.size := xlt HS.out.at_
      have HS0wl := Lib.hid HS.out.wl
      clear hrow
      go_upto_region 8 with (fail)
      go_cut [] (fun wc => ∃ kv2, Hid (FnS w2 q (i + 1) names wc kv2 u6 want))
      case first =>
        go_region_law (refine step_appG elemN mov_node rfl (.tmp 29) (.tmp 41) rfl (by rfl) HRw.out #[.string ⟨#[]⟩, .string ⟨ps.toArray⟩, .string ⟨pn.toArray⟩, .slice none 0 0, .slice none 0 0] (nameN ⟨ps, pn⟩) (name_node _ _ ⟨ps, pn⟩) wr.heap.size rfl (by rfl) rfl (by simp [Value.oneCell']) HL1.out hsz ?_; intro v9 w9 hr9 hb9 hg9 hn9; have hq9 := HQg.out w9 hg9; obtain ⟨A9, c9, hv9, -, -⟩ := hr9.form; rw [HLn.out] at hv9; subst hv9; have g4 : w9.cell? ⟨q, 4, none⟩ = some (.slice kA i kc) := xat hq9 4; have h4 := xfree hq9 4)
        all_goals
          have HF := Lib.hid (fn_kids HS.out HTk.out hr9 hb9 hg9 hn9 hq9)
          clear hr9 hb9 hg9 hn9 hq9 g4 h4
          go_wp2
          go_meet
          exact ⟨_, HF⟩
      case rest =>
      obtain ⟨kv2, HS2⟩ := hcut
      clear y4 f4 hsz hqr HRw HL1 HLn HQg HTk hkl hkc1 hkc2 HS d0 d1 HBr
      obtain ⟨w3, hw3⟩ : ∃ w3, w3 = wc := ⟨_, rfl⟩
      subst hw3
      have HBr := Lib.hid (HB2.out.trans (HS2.out.fr.mono hqw))
      obtain ⟨wA, wcp, hv6, hwc1, hwc2⟩ := HS2.out.row.form
      unfold maxLen at hwc2
      subst hv6
      obtain ⟨-, -, -, hwk⟩ := props_at (HS2.out.row.tab mov_prop)
      have HWk := Lib.hid hwk
      have hwl' := HS0wl.out
      have hwl := HS2.out.wl
      clear hwk
      go_wp2_with fail
      go_loopg [8, 9] want.length (fun gk v8 v9 wr => ∃ (k : Nat), k + gk = want.length ∧ v9 = .int .i64 k ∧ v8 = .bool (decide ((⟨ps, pn⟩ : PropT) ∈ want.take k)) ∧ Hid (Below w3.heap.size w3 wr))
      case atStart => exact ⟨0, by omega, rfl, by rw [List.take_zero]; rfl, Lib.hid (Below.refl _ _)⟩
      case round =>
        obtain ⟨k, hkg, rfl, rfl, HBk⟩ := hrel
        have HBr2 := Lib.hid (HBr.out.trans (HBk.out.mono HBr.out.size))
        have d0 := (HBr2.out.cell (p := ⟨bn, on + i * 2, none⟩) hbl).trans HE0.out
        have d1 := (HBr2.out.cell (p := ⟨bn, on + i * 2 + 1, none⟩) hbl).trans HE1.out
        try simp only at d0 d1
        rcases hd : want.drop k with _ | ⟨y, rest2⟩
        · have hk2 : k = want.length := by have := drop_nil hd; omega
          subst hk2
          rw [List.take_length]
          clear hd HWk
          by_cases hin : (⟨ps, pn⟩ : PropT) ∈ want
          · have HAns3 := Lib.hid (show (names.drop (i + 1)).foldl addP want = WANT by rw [HRe.out]; have := HAns2.out; unfold addP at this ⊢; rw [if_pos hin] at this; exact this)
            rw [show decide ((⟨ps, pn⟩ : PropT) ∈ want) = true from decide_eq_true hin]
            have HS3 := Lib.hid (HS2.out.under HBk.out)
            clear hin HAns2
            go_wp2
            go_roundg (names.length - (i + 1))
            case measure => omega
            case rel => exact ⟨i + 1, _, want, by omega, by go_num, HS3, HAns3⟩
          · have HAns3 := Lib.hid (show (names.drop (i + 1)).foldl addP (want ++ [⟨ps, pn⟩]) = WANT by rw [HRe.out]; have := HAns2.out; unfold addP at this ⊢; rw [if_neg hin] at this; exact this)
            rw [show decide ((⟨ps, pn⟩ : PropT) ∈ want) = false from decide_eq_false hin]
            have HS3 := Lib.hid (HS2.out.under HBk.out)
            have hsz := HS3.out.sz
            clear hin HAns2
            go_wp2_with (at_builtin; refine wpList_appG elemP mov_prop rfl _ _ rfl rfl HS3.out.row _ ⟨ps, pn⟩ rfl _ rfl rfl rfl (by simp [Value.oneCell']) (by omega) hsz ?_)
            intro v9 w9 hr9 hb9 hg9 hn9
            have HS4 := Lib.hid (fn_want HS3.out hr9 hb9 hg9 hn9 hwl')
            clear hr9 hb9 hg9 hn9 HS3
            go_wp2
            go_roundg (names.length - (i + 1))
            case measure => omega
            case rel => exact ⟨i + 1, _, want ++ [⟨ps, pn⟩], by omega, by go_num, HS4, HAns3⟩
        · obtain ⟨hlt2, hy, hr2⟩ := drop_consA hd
          obtain ⟨b2, o2, rfl, hbl2, f0, f1⟩ := HWk.out k y hy
          have g0 := (HBk.out.cell (p := ⟨b2, o2 + k * 2, none⟩) hbl2).trans f0
          have g1 := (HBk.out.cell (p := ⟨b2, o2 + k * 2 + 1, none⟩) hbl2).trans f1
          obtain ⟨ys, yn⟩ := y
          simp only at g0 g1
          have HTy := Lib.hid (show want.take (k + 1) = want.take k ++ [⟨ys, yn⟩] by rw [List.take_add_one, hy]; rfl)
          have i1 : (k : Int) < want.length := by omega
          have i2 : (0 : Int) ≤ k := by omega
          have HBD := Lib.hid (fun n => below_draws HBk.out n)
          have hsm := prop_eql ys yn ps pn
          clear hd hy hr2 f0 f1
          by_cases hin : (⟨ps, pn⟩ : PropT) ∈ want.take k
          · have HD := Lib.hid (show decide ((⟨ps, pn⟩ : PropT) ∈ want.take (k + 1)) = true from decide_eq_true (by rw [HTy.out]; exact List.mem_append_left _ hin))
            rw [show decide ((⟨ps, pn⟩ : PropT) ∈ want.take k) = true from decide_eq_true hin]
            clear hin
            go_wp2
            go_quiet (fail)
            go_wp2
            go_roundg (gk - 1)
            case measure => omega
            case rel => exact ⟨k + 1, by omega, by go_num, by rw [HD.out], Lib.hid (HBD.out _)⟩
          · rw [show decide ((⟨ps, pn⟩ : PropT) ∈ want.take k) = false from decide_eq_false hin]
            by_cases he : ys = ps ∧ yn = pn
            · obtain ⟨rfl, rfl⟩ := he
              have HD := Lib.hid (show decide ((⟨ys, yn⟩ : PropT) ∈ want.take (k + 1)) = true from decide_eq_true (by rw [HTy.out]; exact List.mem_append_right _ (by simp)))
              simp only [beq_self_eq_true, Bool.and_self] at hsm
              clear hin
              go_wp2
              go_quiet (fail)
              go_wp2
              go_roundg (gk - 1)
              case measure => omega
              case rel => exact ⟨k + 1, by omega, by go_num, by rw [HD.out], Lib.hid (HBD.out _)⟩
            · have HD := Lib.hid (show decide ((⟨ps, pn⟩ : PropT) ∈ want.take (k + 1)) = false from decide_eq_false (by rw [HTy.out]; intro h; rcases List.mem_append.1 h with h | h; exact hin h; have e := List.mem_singleton.1 h; injection e with e1 e2; exact he ⟨e1.symm, e2.symm⟩))
              have hne : (ys == ps && yn == pn) = false := by rw [Bool.eq_false_iff]; intro h; rw [Bool.and_eq_true, beq_iff_eq, beq_iff_eq] at h; exact he h
              simp only [hne] at hsm
              clear hin he hne
              go_wp2
              go_quiet (fail)
              go_wp2
              go_roundg (gk - 1)
              case measure => omega
              case rel => exact ⟨k + 1, by omega, by go_num, by rw [HD.out], Lib.hid (HBD.out _)⟩
end Go.Proofs.YtdnjiemclhbccaaGreatDoor
/-! AskFr -/
namespace Go.Proofs.YtdnjiemclhbccaaGreatDoor
set_option linter.unusedVariables false
set_option linter.unusedSimpArgs false
theorem bulk_name (p : PropT) : bulkT (nameN p) = p.space.length + p.name.length + 3 := by
  show bulkT (.mk [] p.space p.name [] []) = _
  rw [bulkT, bulkTL]
  simp only [List.length_nil, List.map_nil, List.sum_nil]
  omega
theorem names_bulk : ∀ l : List PropT, bulkTL (l.map nameN) = (l.map propM).sum + 2 * l.length ∧ 2 * l.length ≤ (l.map propM).sum
  | [] => ⟨rfl, Nat.le_refl _⟩
  | p :: l => by
    obtain ⟨h1, h2⟩ := names_bulk l
    have h3 : propM p = p.space.length + p.name.length + 2 := rfl
    rw [List.map_cons, bulkTL, h1, bulk_name, List.map_cons, List.sum_cons, List.length_cons, h3]
    omega
end Go.Proofs.YtdnjiemclhbccaaGreatDoor

/-
  Parts of the walks and plain laws of layer 10, joined: AskC. Conditions: as each theorem states them.
-/
import Derived.Test.YtopogglcnnjdlaaGreatDoorXmlZ33
/-! AskC -/
namespace Go.Proofs.YtopogglcnnjdlaaGreatDoor
set_option linter.unusedVariables false
set_option linter.unusedSimpArgs false
open Go.RowKit

def chgP (k p : NodeT) : List ChgT := (p.kids.filter fun v => !decide (v.name = [])).map fun v => ⟨decide (k.name = wRemove), v⟩
theorem chgK_eq (k : NodeT) : chgK k = if isD k wSet || isD k wRemove then (eachD [k] wProp).flatMap (chgP k) else [] := rfl
theorem chgP_len (k p : NodeT) : (chgP k p).length < countN p := by
  unfold chgP
  rw [List.length_map]
  have h1 := List.length_filter_le (fun v => !decide (v.name = [])) p.kids
  have h2 := kids_le p
  omega
theorem chgPs_len (k : NodeT) : ∀ l : List NodeT, (l.flatMap (chgP k)).length ≤ countL l
  | [] => Nat.zero_le _
  | p :: l => by
    rw [List.flatMap_cons, List.length_append, countL]
    have h1 := chgP_len k p
    have h2 := chgPs_len k l
    omega
theorem count_filter (q : NodeT → Bool) : ∀ l : List NodeT, countL (l.filter q) ≤ countL l
  | [] => Nat.le_refl _
  | p :: l => by
    have h := count_filter q l
    rw [List.filter_cons, countL]
    split
    · rw [countL]; omega
    · omega
theorem chgK_len (k : NodeT) : (chgK k).length ≤ countN k := by
  rw [chgK_eq]
  split
  · have h1 := chgPs_len k (eachD [k] wProp)
    rw [eachD_one] at h1 ⊢
    have h2 := count_filter (fun x => isD x wProp) k.kids
    have h3 := countN_kids k
    omega
  · exact Nat.zero_le _
theorem chgKs_len : ∀ l : List NodeT, (l.flatMap chgK).length ≤ countL l
  | [] => Nat.zero_le _
  | p :: l => by
    rw [List.flatMap_cons, List.length_append, countL]
    have h1 := chgK_len p
    have h2 := chgKs_len l
    omega
theorem chgT_len (n : NodeT) : (chgT n).length < countN n := by
  have h1 := chgKs_len n.kids
  have h2 := countN_kids n
  unfold chgT
  omega
/-- what the loops keep: the row of changes, the block of the node that is looked at. -/
structure CFr (w1 : World) (c : Nat) (xs : Array Value) (wr : World) (v : Value) (out : List ChgT) : Prop where
  row : RowG 30 6 ChgR (· < w1.heap.size) w1.heap.size wr v out
  fr : Below w1.heap.size w1 wr
  at_ : wr.heap[c]? = some (.cells xs 26 (0, 0))
  ne : v.ownBlock ≠ some c
theorem CFr.under {w1 wr w' : World} {c : Nat} {xs : Array Value} {v : Value} {out : List ChgT} (h : CFr w1 c xs wr v out) (hb : Below wr.heap.size wr w') : CFr w1 c xs w' v out :=
  ⟨h.row.under mov_chg hb, h.fr.trans (hb.mono h.fr.size), (hb.block _ (xlt h.at_)).trans h.at_, h.ne⟩
theorem CFr.app {w1 wr w' : World} {c : Nat} {xs : Array Value} {v v' : Value} {out out' : List ChgT} (h : CFr w1 c xs wr v out) (hr : RowG 30 6 ChgR (· < w1.heap.size) w1.heap.size w' v' out') (hb : Below w1.heap.size wr w') (hg : wr.grownBy w' v.ownBlock) (hn : v'.ownBlock = v.ownBlock ∨ ∃ k, v'.ownBlock = some k ∧ wr.heap.size ≤ k) : CFr w1 c xs w' v' out' := by
  have hlt := xlt h.at_
  refine ⟨hr, h.fr.trans hb, (hg.block _ hlt fun e => h.ne e.symm).trans h.at_, fun e => ?_⟩
  rcases hn with hn | ⟨k, hk, hs⟩
  · exact h.ne (hn.symm.trans e)
  · obtain rfl := Option.some.inj (hk.symm.trans e)
    omega
/-- a list of trees beside the row. -/
def TabO (w1 : World) (v : Value) (wr : World) (u : Value) (l : List NodeT) : Prop := TabP 5 (NodeP (· < w1.heap.size)) (fun b => some b ≠ v.ownBlock) wr u l
theorem TabO.move {w1 wr w' : World} {v v' u : Value} {l : List NodeT} (h : TabO w1 v wr u l) (hfr : Below w1.heap.size w1 wr) (hb : Below w1.heap.size wr w') (hg : wr.grownBy w' v.ownBlock) (hn : v'.ownBlock = v.ownBlock ∨ ∃ k, v'.ownBlock = some k ∧ wr.heap.size ≤ k) : TabO w1 v' w' u l := by
  refine TabP.move h ⟨hg.size, fun b hp hlt => ⟨?_, hg.block b hlt hp⟩⟩ fun cs x _ hx => hx.move ⟨hg.size, fun b hp hlt => ⟨hp, hb.block b hp⟩⟩
  rcases hn with hn | ⟨k, hk, hs⟩
  · rw [hn]; exact hp
  · rw [hk]; intro e; injection e with e; omega
theorem TabO.under {w1 wr w' : World} {v u : Value} {l : List NodeT} (h : TabO w1 v wr u l) (hfr : w1.heap.size ≤ wr.heap.size) (hb : Below wr.heap.size wr w') : TabO w1 v w' u l :=
  TabP.move h (Moves.below hb fun _ hp _ => hp) fun cs x _ hx => hx.move (Moves.below hb fun _ hp _ => hp)
set_option maxHeartbeats 64000000 in
set_option maxRecDepth 100000 in
set_option linter.unusedSimpArgs false in
theorem achanges_any (body : List UInt8) (w : World) (hs : body.length ≤ 2 ^ 63 - 1) (hE : XEnv w) : Calls Tryz.prog 15 #[.string ⟨body.toArray⟩] w (ChgsV (askChanges body) w) := by
  obtain ⟨ANS, hANS⟩ : ∃ A, A = askChanges body := ⟨_, rfl⟩
  rw [← hANS]
  obtain ⟨E, hEE⟩ : ∃ E, E = ChgsV ANS w := ⟨_, rfl⟩
  rw [← hEE]
  have HEE := Lib.hid hEE
  have HRd := Lib.hid (aread_any body wUpdate w hs hE)
  have HA0 := Lib.hid (show ANS = match askRead body wUpdate with | .error e => .error e | .ok n => if (chgT n).isEmpty then .error 50 else if 32 < (chgT n).length then .error 4 else .ok (chgT n) by rw [hANS]; rfl)
  clear hANS hEE hE
  rcases hx : askRead body wUpdate with k | n
  · have hk := askRead_err hx
    have HRd2 := Lib.hid (show Calls Tryz.prog 41 #[.string ⟨body.toArray⟩, .string ⟨wUpdate.toArray⟩] _ (NodesE (.error k) _) by have := HRd.out; rw [hx] at this; exact this)
    obtain rfl : ANS = .error k := by rw [HA0.out, hx]
    clear HRd HA0 hx
    rcases hk with rfl | rfl | rfl | rfl
    all_goals
      go_enter Tryz.func15, Tryz.ntmps15
      go_wp2_with fail
      refine HRd2.out.mono fun e w1 h => ?_
      obtain ⟨hb1, kA, kc, rfl⟩ := NodesE.err h
      have HB1 := Lib.hid hb1
      clear hb1 h HRd2
      go_wp2
      rw [HEE.out]
      exact ⟨HB1.out, none, 0, rfl, Tab.nil _ _ _⟩
  have HRd2 := Lib.hid (show Calls Tryz.prog 41 #[.string ⟨body.toArray⟩, .string ⟨wUpdate.toArray⟩] _ (NodesE (.ok [n]) _) by have := HRd.out; rw [hx] at this; exact this)
  have hcn := good_count (parse_good (askRead_ok hx).1)
  have hcl := chgT_len n
  have hck : ∀ x, x ∈ n.kids → countL [x] ≤ 5000 := fun x hx => by
    have h1 := len_mem_count _ _ hx
    have h2 := countN_kids n
    rw [countL, countL]
    omega
  have HCk := Lib.hid hck
  obtain ⟨CS, hCS⟩ : ∃ C, C = chgT n := ⟨_, rfl⟩
  have HCS := Lib.hid (show [] ++ (n.kids.drop 0).flatMap chgK = CS by rw [hCS]; rfl)
  have HA := Lib.hid (show ANS = if CS.isEmpty then .error 50 else if 32 < CS.length then .error 4 else .ok CS by rw [HA0.out, hx, hCS])
  have hCl : CS.length ≤ 4096 := by rw [hCS]; omega
  clear HRd HA0 hx hcn hcl hck hCS
  go_enter Tryz.func15, Tryz.ntmps15
  go_wp2_with fail
  refine HRd2.out.mono fun e w1 h => ?_
  obtain ⟨hb1, kA, kc, rfl, ht1⟩ := NodesE.one h
  have HB1 := Lib.hid hb1
  obtain ⟨-, hc1, hc2, hk⟩ := kid_at ht1
  obtain ⟨b1, o1, aA, ac, kA5, kc5, rfl, hbl1, -, -, -, -, e4, -, fk⟩ := hk 0 n rfl
  rw [Nat.zero_mul, Nat.add_zero] at e4
  obtain ⟨-, hkc, hkm, hkk⟩ := kid_at (P := (· < w1.heap.size)) (fk.move (Moves.same w1 fun b _ hb => hb))
  unfold maxLen at hkm hc2
  have HKK := Lib.hid hkk
  clear hb1 h HRd2 ht1 hk fk hkk
  go_wp2_with fail
  go_loopg [6, 26] n.kids.length (fun gk v6 v26 wr => ∃ (i : Nat) (out : List ChgT), i + gk = n.kids.length ∧ v26 = .int .i64 i ∧ Hid (RowG 30 6 ChgR (· < w1.heap.size) w1.heap.size wr v6 out) ∧ Hid (Below w1.heap.size w1 wr) ∧ Hid (out ++ (n.kids.drop i).flatMap chgK = CS))
  case atStart => exact ⟨0, [], by omega, rfl, Lib.hid (RowG.nil _ _ _ _ _ _), Lib.hid (Below.refl _ _), HCS⟩
  case round =>
    obtain ⟨i, out, hig, rfl, HRow, HBw, HAns⟩ := hrel
    clear HCS e4
    rcases hd : n.kids.drop i with _ | ⟨x, rest⟩
    · have hi2 : i = n.kids.length := by have := drop_nil hd; omega
      subst hi2
      obtain rfl : out = CS := by have := HAns.out; rw [hd] at this; rw [← this]; show out = out ++ []; rw [List.append_nil]
      obtain ⟨A', c', hvf, hc1', hc2'⟩ := HRow.out.form
      unfold maxLen at hc2'
      subst hvf
      have HBe := Lib.hid (HB1.out.trans (HBw.out.mono HB1.out.size))
      clear hd HAns HKK HCk
      by_cases h0 : out.length = 0
      · have i0 : (out.length : Int) = 0 := by omega
        obtain rfl : ANS = .error 50 := by rw [HA.out, List.eq_nil_of_length_eq_zero h0]; rfl
        go_wp2
        rw [HEE.out]
        exact ⟨HBe.out, none, 0, rfl, Tab.nil _ _ _⟩
      have i0 : ¬ (out.length : Int) = 0 := by omega
      have hne : out.isEmpty = false := by cases out with | nil => exact absurd rfl h0 | cons => rfl
      by_cases h32 : 32 < out.length
      · have i32 : (32 : Int) < out.length := by omega
        obtain rfl : ANS = .error 4 := by rw [HA.out, hne, if_pos h32]; rfl
        clear hne
        go_wp2
        rw [HEE.out]
        exact ⟨HBe.out, none, 0, rfl, Tab.nil _ _ _⟩
      · have i32 : ¬ (32 : Int) < out.length := by omega
        obtain rfl : ANS = .ok out := by rw [HA.out, hne, if_neg h32]; rfl
        clear hne
        go_wp2
        rw [HEE.out]
        exact ⟨HBe.out, A', c', rfl, HRow.out.tab mov_chg⟩
    · obtain ⟨hlt, hx, hr⟩ := drop_consA hd
      obtain ⟨b2, o2, aA2, ac2, kA2, kc2, rfl, hbl2, e0, e1, e2, e3, e4, fa2, fk2⟩ := HKK.out i x hx
      have d0 := (HBw.out.cell (p := ⟨b2, o2 + i * 5, none⟩) hbl2).trans e0
      have d1 := (HBw.out.cell (p := ⟨b2, o2 + i * 5 + 1, none⟩) hbl2).trans e1
      have d2 := (HBw.out.cell (p := ⟨b2, o2 + i * 5 + 2, none⟩) hbl2).trans e2
      have d3 := (HBw.out.cell (p := ⟨b2, o2 + i * 5 + 3, none⟩) hbl2).trans e3
      have d4 := (HBw.out.cell (p := ⟨b2, o2 + i * 5 + 4, none⟩) hbl2).trans e4
      have k1 : (i : Int) < n.kids.length := by omega
      have k2 : (0 : Int) ≤ i := by omega
      have HN := Lib.hid (node_of fa2 fk2)
      have HCx := Lib.hid (HCk.out x (List.mem_of_getElem? hx))
      have HAns2 := Lib.hid (show out ++ (chgK x ++ (n.kids.drop (i + 1)).flatMap chgK) = CS by have := HAns.out; rw [hd, List.flatMap_cons] at this; rw [hr]; exact this)
      have hb3 : Below wr.heap.size wr (wr.alloc (.cells #[.string ⟨x.text.toArray⟩, .string ⟨x.space.toArray⟩, .string ⟨x.name.toArray⟩, .slice aA2 x.attrs.length ac2, .slice kA2 x.kids.length kc2] 26 (0, 0))) := (Below.refl _ _).alloc (Nat.le_refl _) _
      have hcf : CFr w1 wr.heap.size #[.string ⟨x.text.toArray⟩, .string ⟨x.space.toArray⟩, .string ⟨x.name.toArray⟩, .slice aA2 x.attrs.length ac2, .slice kA2 x.kids.length kc2] (wr.alloc (.cells #[.string ⟨x.text.toArray⟩, .string ⟨x.space.toArray⟩, .string ⟨x.name.toArray⟩, .slice aA2 x.attrs.length ac2, .slice kA2 x.kids.length kc2] 26 (0, 0))) u6 out :=
        ⟨HRow.out.under mov_chg hb3, HBw.out.trans (hb3.mono HBw.out.size), heap_alloc_new _ _, fun e => by have := (HRow.out.lt _ e).2; omega⟩
      have HCF := Lib.hid hcf
      have hwr := HBw.out.size
      clear e0 e1 e2 e3 e4 hd hx hr HAns hb3 hcf HRow HBw fa2 fk2
      go_upto_region 8 with (fail)
      generalize wr.alloc (.cells #[.string ⟨x.text.toArray⟩, .string ⟨x.space.toArray⟩, .string ⟨x.name.toArray⟩, .slice aA2 x.attrs.length ac2, .slice kA2 x.kids.length kc2] 26 (0, 0)) = w3 at *
      obtain ⟨c8, hc8⟩ : ∃ q, q = wr.heap.size := ⟨_, rfl⟩
      rw [← hc8] at HCF ⊢
      clear hc8 d0 d1 d2 d3 d4
      have HIs := Lib.hid (ais_any x aA2 ac2 kA2 kc2)
      go_cut [37] (fun v wc => v = .bool (!isD x wSet && !isD x wRemove) ∧ Hid (CFr w1 c8 #[.string ⟨x.text.toArray⟩, .string ⟨x.space.toArray⟩, .string ⟨x.name.toArray⟩, .slice aA2 x.attrs.length ac2, .slice kA2 x.kids.length kc2] wc u6 out))
      case first =>
        have z0 := xat HCF.out.at_ 0
        have z1 := xat HCF.out.at_ 1
        have z2 := xat HCF.out.at_ 2
        have z3 := xat HCF.out.at_ 3
        have z4 := xat HCF.out.at_ 4
        simp only [List.getElem?_toArray, List.getElem?_cons_zero, List.getElem?_cons_succ] at z0 z1 z2 z3 z4
        clear HKK HCk HAns2 HN HA HCx
        go_wp2_with fail
        refine (HIs.out wSet w3).mono ?_
        rintro e w4 ⟨rfl, hb4⟩
        have HC4 := Lib.hid (HCF.out.under hb4)
        clear hb4 HCF z0 z1 z2 z3 z4
        cases hS : isD x wSet
        · have z0 := xat HC4.out.at_ 0
          have z1 := xat HC4.out.at_ 1
          have z2 := xat HC4.out.at_ 2
          have z3 := xat HC4.out.at_ 3
          have z4 := xat HC4.out.at_ 4
          simp only [List.getElem?_toArray, List.getElem?_cons_zero, List.getElem?_cons_succ] at z0 z1 z2 z3 z4
          have HS := Lib.hid hS
          clear hS
          go_wp2_with fail
          refine (HIs.out wRemove w4).mono ?_
          rintro e w5 ⟨rfl, hb5⟩
          have HC5 := Lib.hid (HC4.out.under hb5)
          clear hb5 HC4 z0 z1 z2 z3 z4
          cases hR : isD x wRemove
          all_goals
            have HR := Lib.hid hR
            clear hR
            go_wp2
            go_meet
            exact ⟨by rw [HS.out, HR.out]; rfl, HC5⟩
        · have HS := Lib.hid hS
          clear hS
          go_wp2
          go_meet
          exact ⟨by rw [HS.out]; rfl, HC4⟩
      case rest =>
      obtain ⟨rfl, HC⟩ := hcut
      clear HCF
      cases hsr : (isD x wSet || isD x wRemove)
      · have hv37 : (!isD x wSet && !isD x wRemove) = true := by rw [← Bool.not_or, hsr]; rfl
        have HAns3 := Lib.hid (show out ++ (n.kids.drop (i + 1)).flatMap chgK = CS by have := HAns2.out; rw [chgK_eq, hsr] at this; exact this)
        rw [hv37]
        have HRow := Lib.hid HC.out.row
        have HBw := Lib.hid HC.out.fr
        clear hv37 hsr HAns2 HC HN HCx HIs
        go_wp2
        go_roundg (n.kids.length - (i + 1))
        case measure => omega
        case rel => exact ⟨i + 1, out, by omega, by go_num, HRow, HBw, HAns3⟩
      have hv37 : (!isD x wSet && !isD x wRemove) = false := by rw [← Bool.not_or, hsr]; rfl
      rw [hv37]
      obtain ⟨L, hL⟩ : ∃ L, L = eachD [x] wProp := ⟨_, rfl⟩
      have HAns3 := Lib.hid (show out ++ ((L.drop 0).flatMap (chgP x) ++ (n.kids.drop (i + 1)).flatMap chgK) = CS by have := HAns2.out; rw [chgK_eq, hsr] at this; rw [hL]; exact this)
      have hLl : L.length ≤ 5000 := by have := eachD_len [x] wProp; have := HCx.out; rw [hL]; omega
      have HEa := Lib.hid (fun v w' (hv : Tab 5 (NodeP (· < w1.heap.size)) w' v [x]) => (show Calls Tryz.prog 43 #[v, .string ⟨wProp.toArray⟩] w' (NodesV (· < w1.heap.size) L w') by rw [hL]; exact aeach_any _ v [x] wProp w' hv HCx.out))
      have z0 := xat HC.out.at_ 0
      have z1 := xat HC.out.at_ 1
      have z2 := xat HC.out.at_ 2
      have z3 := xat HC.out.at_ 3
      have z4 := xat HC.out.at_ 4
      simp only [List.getElem?_toArray, List.getElem?_cons_zero, List.getElem?_cons_succ] at z0 z1 z2 z3 z4
      have hb6 : Below wc.heap.size wc (wc.alloc (.cells #[.string ⟨x.text.toArray⟩, .string ⟨x.space.toArray⟩, .string ⟨x.name.toArray⟩, .slice aA2 x.attrs.length ac2, .slice kA2 x.kids.length kc2] 26 (0, 0))) := (Below.refl _ _).alloc (Nat.le_refl _) _
      have HN6 := Lib.hid (show NodeP (· < w1.heap.size) (wc.alloc (.cells #[.string ⟨x.text.toArray⟩, .string ⟨x.space.toArray⟩, .string ⟨x.name.toArray⟩, .slice aA2 x.attrs.length ac2, .slice kA2 x.kids.length kc2] 26 (0, 0))) [.string ⟨x.text.toArray⟩, .string ⟨x.space.toArray⟩, .string ⟨x.name.toArray⟩, .slice aA2 x.attrs.length ac2, .slice kA2 x.kids.length kc2] x from HN.out.move (Moves.below (HC.out.fr.trans (hb6.mono HC.out.fr.size)) fun _ hp _ => hp))
      have HT6 := Lib.hid (many_row (n := 5) (R := NodeP (· < w1.heap.size)) (P := anyB) (rows := [[.string ⟨x.text.toArray⟩, .string ⟨x.space.toArray⟩, .string ⟨x.name.toArray⟩, .slice aA2 x.attrs.length ac2, .slice kA2 x.kids.length kc2]]) (xs := [x])
        (heap_alloc_new wc (.cells #[.string ⟨x.text.toArray⟩, .string ⟨x.space.toArray⟩, .string ⟨x.name.toArray⟩, .slice aA2 x.attrs.length ac2, .slice kA2 x.kids.length kc2] 26 (0, 0))) (by intro r hr; rw [List.mem_singleton.1 hr]; rfl) rfl (show 1 ≤ maxLen by unfold maxLen; decide)
        (by intro j r y hr hy; have hj := (List.getElem?_eq_some_iff.1 hy).1; simp at hj; subst hj; injection hr with hr; injection hy with hy; subst hr hy; exact HN6.out) trivial).1
      have HC6 := Lib.hid (HC.out.under hb6)
      clear hv37 hsr HAns2 HN hL hb6 HN6 HC HCx HIs
      go_wp2_with fail
      generalize wc.alloc (.cells #[.string ⟨x.text.toArray⟩, .string ⟨x.space.toArray⟩, .string ⟨x.name.toArray⟩, .slice aA2 x.attrs.length ac2, .slice kA2 x.kids.length kc2] 26 (0, 0)) = w6 at *
      refine (HEa.out _ w6 HT6.out).mono ?_
      rintro e w7 ⟨hb7, kA7, kc7, rfl, ht7, hn7⟩
      have HC7 := Lib.hid (HC6.out.under hb7)
      have hu6 := HC6.out.row.lt
      have HO7 := Lib.hid (show TabO w1 u6 w7 (.slice kA7 L.length kc7) L from ⟨ht7, fun _ b hb e => by have := hn7 b hb; have := (hu6 b e.symm).2; omega⟩)
      obtain ⟨-, hc71, hc72, -⟩ := kid_atT ht7
      unfold maxLen at hc72
      obtain ⟨R1, hR1⟩ : ∃ R, R = (n.kids.drop (i + 1)).flatMap chgK := ⟨_, rfl⟩
      rw [← hR1] at HAns3
      have HR1 := Lib.hid hR1
      obtain ⟨rm, hrm⟩ : ∃ rm, (x.name == [114, 101, 109, 111, 118, 101]) = rm := ⟨_, rfl⟩
      have hrm2 : decide (x.name = wRemove) = rm := by rw [← hrm]; exact (Bool.beq_eq_decide_eq _ _).symm
      have HG := Lib.hid (show ∀ p : NodeT, chgP x p = (p.kids.filter fun v => !decide (v.name = [])).map fun v => (⟨rm, v⟩ : ChgT) by intro p; unfold chgP; rw [hrm2])
      clear hb7 ht7 hn7 hu6 HC6 HT6 HEa z0 z1 z2 z3 z4 hR1 hrm2
      go_wp2_with fail
      go_loopg [6, 42] L.length (fun gk v6 v42 wr => ∃ (j : Nat) (out : List ChgT), j + gk = L.length ∧ v42 = .int .i64 j ∧ Hid (CFr w1 c8 #[.string ⟨x.text.toArray⟩, .string ⟨x.space.toArray⟩, .string ⟨x.name.toArray⟩, .slice aA2 x.attrs.length ac2, .slice kA2 x.kids.length kc2] wr v6 out) ∧ Hid (TabO w1 v6 wr (.slice kA7 L.length kc7) L) ∧ Hid (out ++ ((L.drop j).flatMap (chgP x) ++ R1) = CS))
      case atStart => exact ⟨0, out, by omega, rfl, HC7, HO7, HAns3⟩
      case round =>
        obtain ⟨j, out2, hjg, rfl, HC, HO, HAns⟩ := hrel
        clear HC7 HO7 HAns3
        rcases hd : L.drop j with _ | ⟨y, rest2⟩
        · have hj2 : j = L.length := by have := drop_nil hd; omega
          subst hj2
          have HAns4 := Lib.hid (show out2 ++ (n.kids.drop (i + 1)).flatMap chgK = CS by have := HAns.out; rw [hd, HR1.out] at this; exact this)
          have HRow := Lib.hid HC.out.row
          have HBw := Lib.hid HC.out.fr
          clear hd HAns HC HO hrm HG HR1
          go_wp2
          go_roundg (n.kids.length - (i + 1))
          case measure => omega
          case rel => exact ⟨i + 1, out2, by omega, by go_num, HRow, HBw, HAns4⟩
        · obtain ⟨hlt2, hy, hr2⟩ := drop_consA hd
          obtain ⟨-, -, -, hk2⟩ := kid_atT HO.out.1
          obtain ⟨b3, o3, aA3, ac3, kA3, kc3, rfl, hbl3, e0, e1, e2, e3, e4, fa3, fk3⟩ := hk2 j y hy
          obtain ⟨-, hkc3, hkm3, -⟩ := kid_at fk3
          unfold maxLen at hkm3
          have HK3 := Lib.hid (fun w' (hf : Below w1.heap.size w1 w') (hs : wr.heap.size ≤ w'.heap.size) => (kid_at (fk3.move (w' := w') (Q := (· < w1.heap.size)) ⟨hs, fun b hp _ => ⟨hp, (hf.block b hp).trans (HC.out.fr.block b hp).symm⟩⟩)).2.2.2)
          have j1 : (j : Int) < L.length := by omega
          have j2 : (0 : Int) ≤ j := by omega
          have HAns4 := Lib.hid (show out2 ++ (((y.kids.drop 0).filter fun v => !decide (v.name = [])).map (fun v => (⟨rm, v⟩ : ChgT)) ++ ((L.drop (j + 1)).flatMap (chgP x) ++ R1)) = CS by
            have := HAns.out
            rw [hd, List.flatMap_cons, HG.out, List.append_assoc] at this
            rw [hr2]
            exact this)
          have hb8 : Below wr.heap.size wr (wr.alloc (.cells #[.string ⟨y.text.toArray⟩, .string ⟨y.space.toArray⟩, .string ⟨y.name.toArray⟩, .slice aA3 y.attrs.length ac3, .slice kA3 y.kids.length kc3] 26 (0, 0))) := (Below.refl _ _).alloc (Nat.le_refl _) _
          have HC8 := Lib.hid (HC.out.under hb8)
          have HO8 := Lib.hid (HO.out.under HC.out.fr.size hb8)
          have HZ8 := Lib.hid (show wr.heap.size ≤ (wr.alloc (.cells #[.string ⟨y.text.toArray⟩, .string ⟨y.space.toArray⟩, .string ⟨y.name.toArray⟩, .slice aA3 y.attrs.length ac3, .slice kA3 y.kids.length kc3] 26 (0, 0))).heap.size from hb8.size)
          have d0 := e0
          have d1 := e1
          have d2 := e2
          have d3 := e3
          have d4 := e4
          clear e0 e1 e2 e3 e4 hd hy hr2 HAns hb8 HC HO hk2 fa3 fk3
          obtain ⟨S8, hS8⟩ : ∃ S, S = wr.heap.size := ⟨_, rfl⟩
          rw [← hS8] at HK3 HZ8
          clear hS8
          go_wp2_with fail
          go_loopg [6, 49] y.kids.length (fun gk v6 v49 wr => ∃ (m : Nat) (out : List ChgT), m + gk = y.kids.length ∧ v49 = .int .i64 m ∧ Hid (CFr w1 c8 #[.string ⟨x.text.toArray⟩, .string ⟨x.space.toArray⟩, .string ⟨x.name.toArray⟩, .slice aA2 x.attrs.length ac2, .slice kA2 x.kids.length kc2] wr v6 out) ∧ Hid (TabO w1 v6 wr (.slice (some ⟨b3, o3, none⟩) L.length kc7) L) ∧ Hid (S8 ≤ wr.heap.size) ∧ Hid (out ++ (((y.kids.drop m).filter fun v => !decide (v.name = [])).map (fun v => (⟨rm, v⟩ : ChgT)) ++ ((L.drop (j + 1)).flatMap (chgP x) ++ R1)) = CS))
          case atStart => exact ⟨0, out2, by omega, rfl, HC8, HO8, HZ8, HAns4⟩
          case round =>
            obtain ⟨m, out3, hmg, rfl, HC, HO, HZ, HAns⟩ := hrel
            clear HC8 HO8 HZ8 HAns4 d0 d1 d2 d3 d4
            rcases hd : y.kids.drop m with _ | ⟨z, rest3⟩
            · have hm2 : m = y.kids.length := by have := drop_nil hd; omega
              subst hm2
              have HAns5 := Lib.hid (show out3 ++ ((L.drop (j + 1)).flatMap (chgP x) ++ R1) = CS by have := HAns.out; rw [hd] at this; exact this)
              clear hd HAns hrm HG HR1 HK3
              go_wp2
              go_roundg (L.length - (j + 1))
              case measure => omega
              case rel => exact ⟨j + 1, out3, by omega, by go_num, HC, HO, HAns5⟩
            · obtain ⟨hlt3, hz, hr3⟩ := drop_consA hd
              obtain ⟨b4, o4, aA4, ac4, kA4, kc4, rfl, hbl4, d0, d1, d2, d3, d4, fa4, fk4⟩ := HK3.out wr HC.out.fr HZ.out m z hz
              have m1 : (m : Int) < y.kids.length := by omega
              have m2 : (0 : Int) ≤ m := by omega
              have HN4 := Lib.hid (node_of fa4 fk4)
              have HAns5 := Lib.hid (show out3 ++ (((z :: rest3).filter fun v => !decide (v.name = [])).map (fun v => (⟨rm, v⟩ : ChgT)) ++ ((L.drop (j + 1)).flatMap (chgP x) ++ R1)) = CS by rw [← hd]; exact HAns.out)
              have HR3 := Lib.hid hr3
              have hb9 : Below wr.heap.size wr (wr.alloc (.cells #[.string ⟨z.text.toArray⟩, .string ⟨z.space.toArray⟩, .string ⟨z.name.toArray⟩, .slice aA4 z.attrs.length ac4, .slice kA4 z.kids.length kc4] 26 (0, 0))) := (Below.refl _ _).alloc (Nat.le_refl _) _
              have hq9 := heap_alloc_new wr (.cells #[.string ⟨z.text.toArray⟩, .string ⟨z.space.toArray⟩, .string ⟨z.name.toArray⟩, .slice aA4 z.attrs.length ac4, .slice kA4 z.kids.length kc4] 26 (0, 0))
              have HC9 := Lib.hid (HC.out.under hb9)
              have HO9 := Lib.hid (HO.out.under HC.out.fr.size hb9)
              have HZ9 := Lib.hid (Nat.le_trans HZ.out hb9.size)
              have HQ9 := Lib.hid hq9
              have hown := HC9.out.row.lt
              have HY9 := Lib.hid (show ChgR (fun k => k < w1.heap.size ∧ some k ≠ u6.ownBlock) (wr.alloc (.cells #[.string ⟨z.text.toArray⟩, .string ⟨z.space.toArray⟩, .string ⟨z.name.toArray⟩, .slice aA4 z.attrs.length ac4, .slice kA4 z.kids.length kc4] 26 (0, 0))) [.bool rm, .string ⟨z.text.toArray⟩, .string ⟨z.space.toArray⟩, .string ⟨z.name.toArray⟩, .slice aA4 z.attrs.length ac4, .slice kA4 z.kids.length kc4] ⟨rm, z⟩ from
                ⟨_, rfl, HN4.out.move (Moves.below hb9 fun k hp _ => ⟨hp, fun e => by have := (hown k e.symm).1; omega⟩)⟩)
              clear hd hz hr3 HAns hb9 hq9 HC HO HZ fa4 fk4 HN4 hown
              by_cases hn : z.name = []
              · have HAns6 := Lib.hid (show out3 ++ (((y.kids.drop (m + 1)).filter fun v => !decide (v.name = [])).map (fun v => (⟨rm, v⟩ : ChgT)) ++ ((L.drop (j + 1)).flatMap (chgP x) ++ R1)) = CS by
                  have := HAns5.out
                  rw [List.filter_cons, if_neg (by simp [hn])] at this
                  rw [HR3.out]
                  exact this)
                have hnn : (z.name == []) = true := by rw [hn]; rfl
                have hne : z.name.isEmpty = true := by rw [hn]; rfl
                clear hn HAns5 HR3 HQ9 HY9
                go_wp2
                go_roundg (gk - 1)
                case measure => omega
                case rel => exact ⟨m + 1, out3, by omega, by go_num, HC9, HO9, HZ9, HAns6⟩
              · have HAns6 := Lib.hid (show (out3 ++ [(⟨rm, z⟩ : ChgT)]) ++ (((y.kids.drop (m + 1)).filter fun v => !decide (v.name = [])).map (fun v => (⟨rm, v⟩ : ChgT)) ++ ((L.drop (j + 1)).flatMap (chgP x) ++ R1)) = CS by
                  have := HAns5.out
                  rw [List.filter_cons, if_pos (by simp [hn]), List.map_cons, List.cons_append] at this
                  rw [HR3.out, List.append_assoc]
                  exact this)
                have hol : out3.length + 1 ≤ 4096 := by
                  have := congrArg List.length HAns6.out
                  simp only [List.length_append, List.length_cons, List.length_nil] at this
                  omega
                have hnn : (z.name == []) = false := beq_eq_false_iff_ne.2 hn
                have hne : z.name.isEmpty = false := by cases h : z.name with | nil => exact absurd h hn | cons => rfl
                clear hn HAns5 HR3
                go_upto_region 15 with (fail)
                generalize wr.alloc (.cells #[.string ⟨z.text.toArray⟩, .string ⟨z.space.toArray⟩, .string ⟨z.name.toArray⟩, .slice aA4 z.attrs.length ac4, .slice kA4 z.kids.length kc4] 26 (0, 0)) = w9 at *
                obtain ⟨q9, hq9⟩ : ∃ q, q = wr.heap.size := ⟨_, rfl⟩
                rw [← hq9] at HQ9 ⊢
                clear hq9 d0 d1 d2 d3 d4
                have y2 := xat HC9.out.at_ 2
                have z0 := xat HQ9.out 0
                have z1 := xat HQ9.out 1
                have z2 := xat HQ9.out 2
                have z3 := xat HQ9.out 3
                have z4 := xat HQ9.out 4
                simp only [List.getElem?_toArray, List.getElem?_cons_zero, List.getElem?_cons_succ] at y2 z0 z1 z2 z3 z4
                have hsz := HC9.out.fr.size
                go_wp2_with (at_builtin; refine wpList_appG elemC mov_chg rfl _ _ rfl rfl HC9.out.row _ ⟨rm, z⟩ HY9.out _ rfl rfl rfl (by simp [Value.oneCell']) (by omega) hsz ?_)
                intro v10 w10 hr10 hb10 hg10 hn10
                have HC10 := Lib.hid (HC9.out.app hr10 hb10 hg10 hn10)
                have HO10 := Lib.hid (HO9.out.move HC9.out.fr hb10 hg10 hn10)
                have HZ10 := Lib.hid (Nat.le_trans HZ9.out hg10.size)
                clear hr10 hb10 hg10 hn10 HC9 HO9 HZ9 HY9 HQ9 y2 z0 z1 z2 z3 z4
                go_wp2
                go_roundg (gk - 1)
                case measure => omega
                case rel => exact ⟨m + 1, out3 ++ [⟨rm, z⟩], by omega, by go_num, HC10, HO10, HZ10, HAns6⟩
end Go.Proofs.YtopogglcnnjdlaaGreatDoor

/-
  The walk of cond.Parse. Condition: the header is shorter than two million bytes.
-/
import Derived.Test.YthfdhanhkanhhaaDoorCondP3
namespace Go.Proofs.YthfdhanhkanhhaaDoor
open Go.RowKit

theorem headF_succ (n : Nat) (s : List UInt8) (out : List GroupT) (tag : List UInt8) (tagged fresh : Bool) : headF (n + 1) s out tag tagged fresh =
    if s = [] then (if out = [] ∨ fresh = true then none else some out)
    else if eatB [40] s then
      match listS (eatR [40] s) with
      | none => none
      | some (l, r) => headF n (whiteS r) (out ++ [⟨tagged, tag, l⟩]) tag tagged false
    else if eatB [60] (eatR [40] s) && !fresh && (tagged || decide (out = [])) then
      match betwS 62 [60] 33 (eatR [60] (eatR [40] s)) with
      | none => none
      | some (t, r) => headF n (whiteS r) out t true true
    else none := rfl
def ParsePost (o : Option (List GroupT)) (w : World) (e : Ending) (w' : World) : Prop :=
  match o with
  | some gs => ∃ v, e = .returned (.tuple #[v, .int .i64 0]) ∧ Groups w' v gs ∧ Below w.heap.size w w'
  | none => e = .returned (.tuple #[.slice none 0 0, .int .i64 50]) ∧ Below w.heap.size w w'
/-- a group's cells; its list in a block of its own, from B on, apart from the block blk. -/
def GRow (B : Nat) (blk : Option Nat) (w : World) (row : List Value) (g : GroupT) : Prop :=
  ∃ cv, row = [.bool g.tagged, .string ⟨g.tag.toArray⟩, cv] ∧ OwnT 48 3 B (g.conds.map condCells) cv w ∧ ∀ b, cv.ownBlock = some b → some b ≠ blk
def GRows (B : Nat) (blk : Option Nat) (w : World) (rows : List (List Value)) (out : List GroupT) : Prop :=
  rows.length = out.length ∧ ∀ (j : Nat) row g, rows[j]? = some row → out[j]? = some g → GRow B blk w row g
section
variable {B : Nat} {blk : Option Nat} {w w' : World} {rows : List (List Value)} {out : List GroupT}
theorem GRows.grown {r : Nat} (h : GRows B blk w rows out) (hg : w.grownBy w' (some r)) (hr : r < B) : GRows B blk w' rows out :=
  ⟨h.1, fun j row g h1 h2 => by
    obtain ⟨cv, e, ho, ha⟩ := h.2 j row g h1 h2
    exact ⟨cv, e, ho.grown hg (fun b hb => by have := (ho.lt b hb).1; intro e; injection e with e; omega), ha⟩⟩
theorem GRows.app {v v' cv : Value} {g : GroupT} (h : GRows B v.ownBlock w rows out) (hg : w.grownBy w' v.ownBlock) (hn : v'.ownBlock = v.ownBlock ∨ ∃ k, v'.ownBlock = some k ∧ w.heap.size ≤ k)
    (ho : OwnT 48 3 B (g.conds.map condCells) cv w) (ha : ∀ b, cv.ownBlock = some b → some b ≠ v.ownBlock) :
    GRows B v'.ownBlock w' (rows ++ [[.bool g.tagged, .string ⟨g.tag.toArray⟩, cv]]) (out ++ [g]) := by
  have key : ∀ (row : List Value) (g : GroupT), GRow B v.ownBlock w row g → GRow B v'.ownBlock w' row g := by
    rintro row g ⟨cv, e, ho, ha⟩
    refine ⟨cv, e, ho.grown hg ha, fun b hb => ?_⟩
    rcases hn with hn | ⟨k, hk, hk2⟩
    · rw [hn]; exact ha b hb
    · rw [hk]
      have := (ho.lt b hb).2
      intro e; injection e with e; omega
  refine ⟨by simp [h.1], fun j row g' h1 h2 => ?_⟩
  by_cases hj : j < rows.length
  · rw [List.getElem?_append_left hj] at h1
    rw [List.getElem?_append_left (by rw [← h.1]; exact hj)] at h2
    exact key _ _ (h.2 j row g' h1 h2)
  · have hl := h.1
    rw [List.getElem?_append_right (by omega)] at h1 h2
    rw [hl] at h1
    obtain ⟨m, hm⟩ : ∃ m, j - out.length = m := ⟨_, rfl⟩
    rw [hm] at h1 h2
    cases m with
    | succ m => simp at h1
    | zero =>
      simp at h1 h2
      subst h1 h2
      exact key _ _ ⟨cv, rfl, ho, ha⟩
theorem GRows.groups {B' : Nat} {v : Value} (h : GRows B blk w rows out) (ho : OwnT 46 3 B' rows v w) : Groups w v out :=
  ho.tab h.1 (fun j x r hx hr => by
    obtain ⟨cv, e, ho, _⟩ := h.2 j r x hr hx
    exact ⟨cv, e, ho.conds⟩)
end
theorem OwnT.mono {e : TypeId} {n B B' : Nat} {rows : List (List Value)} {v : Value} {w : World} (h : OwnT e n B rows v w) (hB : B' ≤ B) : OwnT e n B' rows v w := by
  refine ⟨⟨h.1.1, ?_⟩, h.2⟩
  rcases h.1.2 with h0 | ⟨g, cap, cur, hv, hb, rest⟩
  · exact .inl h0
  · exact .inr ⟨g, cap, cur, hv, Nat.le_trans hB hb, rest⟩
theorem grown_set' (w : World) (a : Addr) (v : Value) : w.grownBy (w.setCell a v) (some a.block) :=
  ⟨rfl, rfl, rfl, by simp, fun k _ hne => heap_setCell_other w _ k v (fun h => hne (by rw [h]))⟩
set_option maxHeartbeats 1000000 in
set_option maxRecDepth 100000 in
set_option linter.unusedSimpArgs false in
theorem cparse_any (s : List UInt8) (w : World) (hs : s.length ≤ 2000000) :
    Calls Tryd.prog 23 #[.string ⟨s.toArray⟩] w (ParsePost (headS s) w) := by
  obtain ⟨ANS, hA⟩ : ∃ A, headS s = A := ⟨_, rfl⟩
  rw [hA]
  go_enter Tryd.func23, Tryd.ntmps23
  have R0 : Rdr (w.alloc (.cells #[.string ⟨s.toArray⟩] 75)) w.heap.size s := heap_alloc_new w _
  have hwl := white_len s
  go_wp2_with fail
  refine (white_any w.heap.size s _ R0).mono ?_
  rintro e w0 ⟨rfl, R1, g1⟩
  have hb0 : Below w.heap.size w w0 := by
    have hA1 : Below w.heap.size w (w.alloc (.cells #[.string ⟨s.toArray⟩] 75)) := (Below.refl _ _).alloc (Nat.le_refl _) _
    exact grown_below hA1 g1 (by simp) (fun k hk => by injection hk with hk; omega)
  have hr0 := R1.lt
  clear R0 g1
  generalize hr : w.heap.size = r at *
  go_wp2_with fail
  go_loopw [5, 6, 7, 8] (fun v tv gv fv wr => ∃ n s1 out rows tag tagged fresh, s1.length < n ∧ tv = .string ⟨(tag : List UInt8).toArray⟩ ∧ gv = .bool tagged ∧ fv = .bool fresh ∧ Rdr wr r s1 ∧ Below r w wr ∧ OwnT 46 3 (r + 1) rows v wr ∧ GRows (r + 1) v.ownBlock wr rows out ∧ Hid (headF n s1 out tag tagged fresh = ANS) ∧ out.length + s1.length ≤ s.length) (fun _ _ _ _ wr => rdLen wr r)
  case atStart => exact ⟨s.length + 1, whiteS s, [], [], [], false, false, by omega, rfl, rfl, rfl, R1, hb0, OwnT.nil _ _ _ _, ⟨rfl, fun j row g h => by simp at h⟩, hA, by simpa using hwl⟩
  case round =>
    obtain ⟨n, s1, out, rows, tag, tagged, fresh, hn, rfl, rfl, rfl, hr1, hbw, ho1, hg1, HL, hle⟩ := hrel
    clear hA R1 hb0 hwl
    obtain ⟨n, rfl⟩ : ∃ m, n = m + 1 := ⟨n - 1, by omega⟩
    have L1 := Lib.hid (headF_succ n s1 out tag tagged fresh)
    rw [HL.out] at L1
    clear HL
    have hc1 := hr1.cell
    have hl1 := hr1.len
    have R1 := Lib.hid hr1
    have O1 := Lib.hid ho1
    have G1 := Lib.hid hg1
    obtain ⟨A, cap, hv1, hcap, hcm⟩ := ho1.shape
    rw [hg1.1] at hv1 hcap
    subst hv1
    clear ho1 hr1 hg1
    have hbr : Below w.heap.size w wr := by rw [hr]; exact hbw
    rcases s1 with _ | ⟨x, s1⟩
    · have L2 := Lib.hid (show ANS = if out = [] ∨ fresh = true then none else some out by rw [L1.out, if_pos rfl])
      clear L1
      rcases out with _ | ⟨g0, out⟩
      · obtain rfl : ANS = none := by simpa using L2.out
        go_wp2
        go_ret2
        exact ⟨rfl, hbr⟩
      · cases fresh
        · obtain rfl : ANS = some (g0 :: out) := by simpa using L2.out
          go_wp2
          go_ret2
          exact ⟨_, rfl, G1.out.groups O1.out, hbr⟩
        · obtain rfl : ANS = none := by simpa using L2.out
          go_wp2
          go_ret2
          exact ⟨rfl, hbr⟩
    · have L2 := Lib.hid (L1.out.trans (if_neg (List.cons_ne_nil x s1)))
      clear L1
      have hne : (x :: s1).isEmpty = false := rfl
      generalize x :: s1 = s2 at *
      have e1 := eatR_len [40] s2
      have e1' : ∀ (_ : eatB [40] s2 = true), (eatR [40] s2).length < s2.length := fun h => eatR_lt h (by simp)
      have E1 := Lib.hid (fun w h => eat_any r [40] s2 w h)
      generalize eatR [40] s2 = s3 at *
      generalize eatB [40] s2 = b1 at *
      go_wp2_with fail
      refine (E1.out _ R1.out).mono ?_
      rintro e w1 ⟨rfl, hr2, g1⟩
      have R2 := Lib.hid hr2
      have O2 := Lib.hid (O1.out.grown g1 (fun b hb => by have := (O1.out.lt b hb).1; intro e; injection e with e; omega))
      have G2 := Lib.hid (G1.out.grown g1 (Nat.lt_succ_self r))
      have hb1 : Below r w w1 := grown_below hbw g1 (by rw [← hr]; exact hbr.size) (fun k hk => by injection hk with hk; omega)
      clear hr2 g1 E1 hc1 R1 O1 G1
      cases b1
      · have L3 := Lib.hid (show ANS = if eatB [60] s3 && !fresh && (tagged || decide (out = [])) then
          match betwS 62 [60] 33 (eatR [60] s3) with
          | none => none
          | some (t, r) => headF n (whiteS r) out t true true
          else none from L2.out)
        clear L2
        have e3 := eatR_len [60] s3
        have e3' : ∀ (_ : eatB [60] s3 = true), (eatR [60] s3).length < s3.length := fun h => eatR_lt h (by simp)
        have E2 := Lib.hid (fun w h => eat_any r [60] s3 w h)
        generalize eatR [60] s3 = s4 at *
        generalize eatB [60] s3 = b2 at *
        have hb1w : w.heap.size ≤ w1.heap.size := by have := hb1.size; omega
        have hoe : decide (out = []) = ((out.length : Int) == 0) := by cases out <;> simp <;> omega
        rw [hoe] at L3
        generalize hoz : ((out.length : Int) == 0) = oz at *
        by_cases hgo : (b2 && !fresh && (tagged || oz)) = true
        · rw [if_pos hgo] at L3
          obtain ⟨⟨rfl, hf⟩, hto⟩ : (b2 = true ∧ fresh = false) ∧ (tagged || oz) = true := by simpa using hgo
          subst hf
          have BT := Lib.hid (fun w h => between_any r s4 [60] 62 33 w h (by unfold maxLen; omega) asc1 (by decide))
          have e4 : ∀ t q, betwS 62 [60] 33 s4 = some (t, q) → q.length < s4.length := fun t q h => (betw_len h).2.1
          generalize betwS 62 [60] 33 s4 = L at *
          have e5 := e3' rfl
          rcases L with _ | ⟨t, q⟩
          · obtain rfl : ANS = none := L3.out
            simp only [betwV, betwR] at BT
            have hfin : ∀ w2 w3, w1.grownBy w2 (some r) → w2.grownBy w3 (some r) → Below w.heap.size w w3 := fun w2 w3 g2 g3 => by
              rw [hr]
              exact grown_below hb1 (grown_trans g2 g3) (by omega) (fun k hk => by injection hk with hk; omega)
            cases tagged
            · obtain rfl : oz = true := by simpa using hto
              go_wp2_with (first | (refine (E2.out _ R2.out).mono ?_; rintro e w2 ⟨rfl, hr3, g2⟩) | (refine (BT.out _ hr3).mono ?_; rintro e w3 ⟨rfl, hr4, g3⟩))
              go_ret2
              exact ⟨rfl, hfin _ _ g2 g3⟩
            · go_wp2_with (first | (refine (E2.out _ R2.out).mono ?_; rintro e w2 ⟨rfl, hr3, g2⟩) | (refine (BT.out _ hr3).mono ?_; rintro e w3 ⟨rfl, hr4, g3⟩))
              go_ret2
              exact ⟨rfl, hfin _ _ g2 g3⟩
          · have e6 := e4 t q rfl
            have L4 := Lib.hid (show ANS = headF n (whiteS q) out t true true from L3.out)
            simp only [betwV, betwR] at BT
            clear L3 e4 hgo
            have hl5 := white_len q
            have step : ∀ w5, Rdr w5 r (whiteS q) → w1.grownBy w5 (some r) → Below r w w5 ∧ OwnT 46 3 (r + 1) rows (.slice A out.length cap) w5 ∧ GRows (r + 1) (Value.slice A out.length cap).ownBlock w5 rows out := fun w5 R5 g5 =>
              ⟨grown_below hb1 g5 (by omega) (fun k hk => by injection hk with hk; omega), O2.out.grown g5 (fun b hb => by have := (O2.out.lt b hb).1; intro e; injection e with e; omega), G2.out.grown g5 (Nat.lt_succ_self r)⟩
            have Step := Lib.hid step
            clear step
            cases tagged
            · obtain rfl : oz = true := by simpa using hto
              go_wp2_with (first | (refine (E2.out _ R2.out).mono ?_; rintro e w2 ⟨rfl, hr3, g2⟩) | (refine (BT.out _ hr3).mono ?_; rintro e w3 ⟨rfl, hr4, g3⟩) | (refine (white_any r q _ hr4).mono ?_; rintro e w5 ⟨rfl, R5, g5⟩))
              have hst := Step.out w5 R5 (grown_trans (grown_trans g2 g3) g5)
              go_roundw
              case rel => exact ⟨n, whiteS q, out, rows, t, true, true, by omega, rfl, rfl, rfl, R5, hst.1, hst.2.1, hst.2.2, Lib.hid L4.out.symm, by omega⟩
              case measure => rw [R5.len, hl1]; omega
            · go_wp2_with (first | (refine (E2.out _ R2.out).mono ?_; rintro e w2 ⟨rfl, hr3, g2⟩) | (refine (BT.out _ hr3).mono ?_; rintro e w3 ⟨rfl, hr4, g3⟩) | (refine (white_any r q _ hr4).mono ?_; rintro e w5 ⟨rfl, R5, g5⟩))
              have hst := Step.out w5 R5 (grown_trans (grown_trans g2 g3) g5)
              go_roundw
              case rel => exact ⟨n, whiteS q, out, rows, t, true, true, by omega, rfl, rfl, rfl, R5, hst.1, hst.2.1, hst.2.2, Lib.hid L4.out.symm, by omega⟩
              case measure => rw [R5.len, hl1]; omega
        · rw [if_neg hgo] at L3
          obtain rfl : ANS = none := L3.out
          have hfin : ∀ w2, w1.grownBy w2 (some r) → Below w.heap.size w w2 := fun w2 g2 => by
            rw [hr]
            exact grown_below hb1 g2 (by omega) (fun k hk => by injection hk with hk; omega)
          clear L3 e3'
          cases b2 <;> cases fresh <;> cases tagged <;> cases oz
          all_goals first
            | (exfalso; exact hgo rfl)
            | (clear hgo
               go_wp2_with (refine (E2.out _ R2.out).mono ?_; rintro e w2 ⟨rfl, hr3, g2⟩)
               go_ret2
               exact ⟨rfl, hfin _ g2⟩)
      · have LL := Lib.hid (fun w h => list_any r s3 w h (by omega))
        have L3 := Lib.hid (show ANS = match listS s3 with
          | none => none
          | some (l, q) => headF n (whiteS q) (out ++ [⟨tagged, tag, l⟩]) tag tagged false from L2.out)
        clear L2
        have e2 : ∀ l q, listS s3 = some (l, q) → q.length < s3.length := fun l q h => list_len _ _ _ _ _ h
        generalize listS s3 = L at *
        go_wp2_with fail
        refine (LL.out _ (R2.out.alloc _)).mono ?_
        intro e w2 hp
        have hp2 : ∃ A' m' c' q ok, e = .returned (.tuple #[.slice A' m' c', .bool ok]) ∧ Rdr w2 r q ∧ (w1.alloc (.cells #[.bool tagged, .string ⟨tag.toArray⟩, .slice none 0 0] 46)).grownBy w2 (some r) ∧ ((ok = false ∧ ANS = none) ∨
            (ok = true ∧ ∃ l, q.length < s3.length ∧ OwnT 48 3 (w1.alloc (.cells #[.bool tagged, .string ⟨tag.toArray⟩, .slice none 0 0] 46)).heap.size (l.map condCells) (.slice A' m' c') w2 ∧ ANS = headF n (whiteS q) (out ++ [⟨tagged, tag, l⟩]) tag tagged false)) := by
          rcases L with _ | ⟨l, q⟩
          · obtain ⟨v, q, he, hr3, g3, A', m', c', rfl⟩ := hp
            exact ⟨A', m', c', q, false, he, hr3, g3, .inl ⟨rfl, L3.out⟩⟩
          · obtain ⟨v, he, hr3, g3, ho⟩ := hp
            obtain ⟨A', c', hv, _, _⟩ := ho.shape
            subst hv
            exact ⟨A', _, c', q, true, he, hr3, g3, .inr ⟨rfl, l, e2 l q rfl, ho, L3.out⟩⟩
        clear hp L3 e2 LL
        obtain ⟨A', m', c', q, ok, rfl, hr3, g3, hcase⟩ := hp2
        have hC := Lib.hid hcase
        clear hcase
        have hszA : (w1.alloc (.cells #[.bool tagged, .string ⟨tag.toArray⟩, .slice none 0 0] 46)).heap.size = w1.heap.size + 1 := by simp
        have hrw1 : r < w1.heap.size := R2.out.lt
        have hbx : w2.heap[w1.heap.size]? = some (.cells #[.bool tagged, .string ⟨tag.toArray⟩, .slice none 0 0] 46 (0, 0)) :=
          (g3.block w1.heap.size (by rw [hszA]; omega) (by intro e; injection e with e; omega)).trans (heap_alloc_new w1 _)
        have b2 : w2.cell? ⟨w1.heap.size, 2, none⟩ = some (.slice none 0 0) := by rw [cell_of_row w2 _ 2 _ _ _ hbx]; rfl
        have f2 : w2.frozen? ⟨w1.heap.size, 2, none⟩ = false := by unfold World.frozen?; simp [hbx]
        have hbx3 := heap_setCell_same w2 w1.heap.size 2 _ _ (.slice A' m' c') hbx
        have k0 : (w2.setCell ⟨w1.heap.size, 2, none⟩ (.slice A' m' c')).cell? ⟨w1.heap.size, 0, none⟩ = some (.bool tagged) := by rw [cell_of_row _ _ 0 _ _ _ hbx3]; rfl
        have k1 : (w2.setCell ⟨w1.heap.size, 2, none⟩ (.slice A' m' c')).cell? ⟨w1.heap.size, 1, none⟩ = some (.string ⟨tag.toArray⟩) := by rw [cell_of_row _ _ 1 _ _ _ hbx3]; rfl
        have k2 : (w2.setCell ⟨w1.heap.size, 2, none⟩ (.slice A' m' c')).cell? ⟨w1.heap.size, 2, none⟩ = some (.slice A' m' c') := by rw [cell_of_row _ _ 2 _ _ _ hbx3]; rfl
        have g12 : w1.grownBy w2 (some r) := grown_trans (World.grownBy_alloc _ _ _) g3
        have g13 : w1.grownBy (w2.setCell ⟨w1.heap.size, 2, none⟩ (.slice A' m' c')) (some r) := grown_high g12 (Nat.le_refl _) _
        have hsz2 : w1.heap.size + 1 ≤ w2.heap.size := by have := g3.size; omega
        have R3 : Rdr (w2.setCell ⟨w1.heap.size, 2, none⟩ (.slice A' m' c')) r q := (heap_setCell_other w2 _ r _ (by show r ≠ w1.heap.size; omega)).trans hr3
        have O3 := Lib.hid (O2.out.grown g13 (fun b hb => by have := (O2.out.lt b hb).1; intro e; injection e with e; omega))
        have G3 := Lib.hid (G2.out.grown g13 (Nat.lt_succ_self r))
        have hb3 : Below r w (w2.setCell ⟨w1.heap.size, 2, none⟩ (.slice A' m' c')) := grown_below hb1 g13 (by omega) (fun k hk => by injection hk with hk; omega)
        have hA3 : ∀ b, (Value.slice A out.length cap).ownBlock = some b → b < w1.heap.size := fun b hb => (O2.out.lt b hb).2
        have hWB : r + 1 ≤ (w2.setCell ⟨w1.heap.size, 2, none⟩ (.slice A' m' c')).heap.size := by simp; omega
        have HBD := Lib.hid (show (rows.length + 1) * 48 ≤ 140737488355328 by rw [G2.out.1]; omega)
        have hone : ∀ u ∈ (#[.bool tagged, .string ⟨tag.toArray⟩, .slice A' m' c'] : Array Value).toList, u.oneCell' = true := by
          intro u hu
          have : u = .bool tagged ∨ u = .string ⟨tag.toArray⟩ ∨ u = .slice A' m' c' := by simpa using hu
          rcases this with h | h | h <;> rw [h] <;> rfl
        have Hone := Lib.hid hone
        have HR3 := Lib.hid R3
        clear hr3 g3 hbx hbx3 O2 G2 R2 g12 R3 hone
        rcases hC.out with ⟨rfl, rfl⟩ | ⟨rfl, l, hq, ho, hANS⟩
        · clear hC
          go_wp2_with (at_builtin; go_must (refine wpList_appRec elemG rfl (.tmp 35) (.tmp 37) rfl (r + 1) rows #[.bool tagged, .string ⟨tag.toArray⟩, .slice A' m' c'] _ rfl O3.out w2.heap.size (by simp) rfl rfl Hone.out HBD.out hWB ?_); intro v' w' hown' hb' hg' hblk')
          go_ret2
          exact ⟨rfl, by rw [hr]; exact hb3.trans (hb'.mono (Nat.le_succ r))⟩
        · have HO := Lib.hid ho
          have HANS := Lib.hid hANS
          clear hC ho hANS
          go_wp2_with (at_builtin; go_must (refine wpList_appRec elemG rfl (.tmp 35) (.tmp 37) rfl (r + 1) rows #[.bool tagged, .string ⟨tag.toArray⟩, .slice A' m' c'] _ rfl O3.out w2.heap.size (by simp) rfl rfl Hone.out HBD.out hWB ?_); intro v' w' hown' hb' hg' hblk')
          have R4 : Rdr w' r q := HR3.out.below hb' (Nat.lt_succ_self r)
          have ho3 : OwnT 48 3 (r + 1) (l.map condCells) (.slice A' m' c') (w2.setCell ⟨w1.heap.size, 2, none⟩ (.slice A' m' c')) :=
            (HO.out.grown (grown_set' w2 ⟨w1.heap.size, 2, none⟩ _) (fun b hb => by have := (HO.out.lt b hb).1; simp at this; intro e; injection e with e; simp at e; omega)).mono (by simp; omega)
          have G4 := G3.out.app (g := ⟨tagged, tag, l⟩) hg' hblk' ho3 (fun b hb => by
            have h1 := (HO.out.lt b hb).1
            rw [hszA] at h1
            intro e
            have := hA3 b e.symm
            omega)
          have hb4 : Below r w w' := hb3.trans (hb'.mono (Nat.le_succ r))
          refine (white_any r q w' R4).mono ?_
          rintro e w5 ⟨rfl, R5, g5⟩
          have O5 := hown'.grown g5 (fun b hb => by have := (hown'.lt b hb).1; intro e; injection e with e; omega)
          have G5 := G4.grown g5 (Nat.lt_succ_self r)
          have hb5 : Below r w w5 := grown_below hb4 g5 (by have := R4.lt; omega) (fun k hk => by injection hk with hk; omega)
          have hl5 := white_len q
          clear hb4 hb3 hb' hg' hblk' ho3 G4 hown' g5 R4
          go_wp2
          go_roundw
          case rel =>
            refine ⟨n, whiteS q, out ++ [⟨tagged, tag, l⟩], _, tag, tagged, false, by omega, rfl, rfl, rfl, R5, hb5, O5, G5, Lib.hid HANS.out.symm, ?_⟩
            rw [List.length_append]; simp; omega
          case measure =>
            rw [R5.len, hl1]; omega
end Go.Proofs.YthfdhanhkanhhaaDoor

/-
  The walk of cond's reader: list. Condition: the reader lies in a block of its own; what it holds is shorter than two million bytes.
-/
import Derived.Test.YthfdhanhkanhhaaDoorCondP2
namespace Go.Proofs.YthfdhanhkanhhaaDoor
open Go.RowKit

theorem listF_succ (n : Nat) (s : List UInt8) (out : List CondT) : listF (n + 1) s out =
    if eatB [41] s then (if out = [] then none else some (out, eatR [41] s))
    else if (condS (eatR [41] s)).2.1 then listF n (condS (eatR [41] s)).2.2 (out ++ [(condS (eatR [41] s)).1]) else none := rfl
/-- how long what the reader holds is. -/
def rdLen (w : World) (r : Nat) : Nat := match w.cell? ⟨r, 0, none⟩ with
  | some (.string b) => b.size
  | _ => 0
theorem Rdr.len {w : World} {r : Nat} {s : List UInt8} (h : Rdr w r s) : rdLen w r = s.length := by
  unfold rdLen
  rw [h.cell]
  rfl
def condCells (c : CondT) : List Value := [.bool c.neg, .string ⟨c.tok.toArray⟩, .string ⟨c.etag.toArray⟩]
theorem condCells_one (c : CondT) : ∀ u ∈ (#[.bool c.neg, .string ⟨c.tok.toArray⟩, .string ⟨c.etag.toArray⟩] : Array Value).toList, u.oneCell' = true := by
  intro u hu
  have : u = .bool c.neg ∨ u = .string ⟨c.tok.toArray⟩ ∨ u = .string ⟨c.etag.toArray⟩ := by simpa using hu
  rcases this with h | h | h <;> rw [h] <;> rfl
theorem OwnT.conds {B : Nat} {l : List CondT} {v : Value} {w : World} (h : OwnT 48 3 B (l.map condCells) v w) : Conds w v l :=
  h.tab (by simp) (fun j x r hx hr => by
    rw [List.getElem?_map, hx] at hr
    injection hr with hr
    exact hr.symm)
theorem OwnT.shape {e : TypeId} {n B : Nat} {rows : List (List Value)} {v : Value} {w : World} (h : OwnT e n B rows v w) : ∃ A cap, v = .slice A rows.length cap ∧ rows.length ≤ cap ∧ cap ≤ maxLen := by
  rcases h.1.2 with ⟨hv, h0⟩ | ⟨g, cap, cur, hv, hb, hg, hn, hm, hs, ht⟩
  · exact ⟨none, 0, by rw [hv, h0], by omega, by unfold maxLen; omega⟩
  · exact ⟨_, cap, hv, hn, hm⟩
def ListPost (o : Option (List CondT × List UInt8)) (r : Nat) (w : World) (e : Ending) (w' : World) : Prop :=
  match o with
  | some (l, q) => ∃ v, e = .returned (.tuple #[v, .bool true]) ∧ Rdr w' r q ∧ w.grownBy w' (some r) ∧ OwnT 48 3 w.heap.size (l.map condCells) v w'
  | none => ∃ v q, e = .returned (.tuple #[v, .bool false]) ∧ Rdr w' r q ∧ w.grownBy w' (some r) ∧ ∃ A n c, v = .slice A n c
set_option maxHeartbeats 1000000 in
set_option maxRecDepth 100000 in
set_option linter.unusedSimpArgs false in
theorem list_any (r : Nat) (s : List UInt8) (w : World) (h : Rdr w r s) (hs : s.length ≤ 2000000) :
    Calls Tryd.prog 47 #[.pointer (some ⟨r, 0, none⟩)] w (ListPost (listS s) r w) := by
  have hlo := h.lt
  obtain ⟨ANS, hA⟩ : ∃ A, listS s = A := ⟨_, rfl⟩
  rw [hA]
  have H := Lib.hid h
  clear h
  go_enter Tryd.func47, Tryd.ntmps47
  go_wp2
  go_loopw [4] (fun v wr => ∃ n s1 out, s1.length < n ∧ Rdr wr r s1 ∧ w.grownBy wr (some r) ∧ OwnT 48 3 w.heap.size (out.map condCells) v wr ∧ Hid (listF n s1 out = ANS) ∧ out.length + s1.length ≤ s.length) (fun _ wr => rdLen wr r)
  case atStart => exact ⟨s.length + 1, s, [], by omega, H.out, grown_refl _ _, OwnT.nil _ _ _ _, hA, by simp⟩
  case round =>
    obtain ⟨n, s1, out, hn, hr1, hg1, ho1, HL, hle⟩ := hrel
    clear hA
    have R1 := Lib.hid hr1
    have O1 := Lib.hid ho1
    obtain ⟨A, cap, hv1, hcap, hcm⟩ := ho1.shape
    rw [List.length_map] at hv1 hcap
    subst hv1
    clear ho1
    obtain ⟨n, rfl⟩ : ∃ m, n = m + 1 := ⟨n - 1, by omega⟩
    have e1 := eatR_len [41] s1
    have hl1 := hr1.len
    clear hr1
    have E1 := Lib.hid (fun w h => eat_any r [41] s1 w h)
    have L1 := Lib.hid (listF_succ n s1 out)
    have e2 : ∀ (_ : eatB [41] s1 = true), (eatR [41] s1).length < s1.length := fun h => eatR_lt h (by simp)
    generalize eatR [41] s1 = s2 at *
    generalize eatB [41] s1 = b1 at *
    rw [HL.out] at L1
    clear HL
    go_wp2_with fail
    refine (E1.out _ R1.out).mono ?_
    rintro e w1 ⟨rfl, h1, g1⟩
    have R2 := Lib.hid h1
    have G2 := Lib.hid (grown_trans hg1 g1)
    have O2 := Lib.hid (O1.out.grown g1 (fun b hb => by have := O1.out.lt b hb; intro e; injection e with e; omega))
    clear h1 g1 E1 R1 O1
    cases b1
    · have C1 := Lib.hid (fun w h => condition_any r s2 w h (by unfold maxLen; omega))
      have e3 : ∀ (_ : (condS s2).2.1 = true), (condS s2).2.2.length < s2.length := fun h => cond_len h
      generalize condS s2 = R at *
      obtain ⟨c, ok, s3⟩ := R
      go_wp2_with fail
      refine (C1.out _ R2.out).mono ?_
      rintro e w2 ⟨rfl, h2, g2⟩
      have R3 := Lib.hid h2
      have G3 := Lib.hid (grown_trans G2.out g2)
      have O3 := Lib.hid (O2.out.grown g2 (fun b hb => by have := O2.out.lt b hb; intro e; injection e with e; omega))
      clear h2 g2 C1 R2 O2 G2 hg1
      unfold condV
      cases ok
      · obtain rfl : ANS = none := by simpa using L1.out
        go_wp2
        go_ret2
        refine ⟨_, _, rfl, R3.out.alloc _, ?_, _, _, _, rfl⟩
        exact grown_trans G3.out (World.grownBy_alloc _ _ _)
      · have L2 := Lib.hid (show ANS = listF n s3 (out ++ [c]) by simpa using L1.out)
        have hlt : s3.length < s2.length := e3 rfl
        have hWB : w.heap.size ≤ (w2.alloc (.cells #[.bool c.neg, .string ⟨c.tok.toArray⟩, .string ⟨c.etag.toArray⟩] 48)).heap.size := by have := G3.out.size; simp; omega
        have HBD := Lib.hid (show ((out.map condCells).length + 1) * 40 ≤ 140737488355328 by rw [List.length_map]; omega)
        have O4 := Lib.hid (O3.out.alloc (.cells #[.bool c.neg, .string ⟨c.tok.toArray⟩, .string ⟨c.etag.toArray⟩] 48))
        go_wp2_with (at_builtin; go_must (refine wpList_appRec elemC rfl (.tmp 17) (.tmp 19) rfl w.heap.size (out.map condCells) #[.bool c.neg, .string ⟨c.tok.toArray⟩, .string ⟨c.etag.toArray⟩] _ rfl O4.out (w2.heap.size + 1) (by simp) rfl rfl (condCells_one c) HBD.out hWB ?_); intro v' w' hown' hb' hg' hblk')
        have R4 : Rdr w' r s3 := (R3.out.alloc _).below hb' hlo
        have G4 : w.grownBy w' (some r) := ⟨hb'.os.trans G3.out.os, hb'.tape.trans G3.out.tape, hb'.output.trans G3.out.output, Nat.le_trans hWB hb'.size, fun k hk hne => by
          rw [hb'.block k hk, Below.heap_alloc w2 _ k (Nat.lt_of_lt_of_le hk G3.out.size)]
          exact G3.out.block k hk hne⟩
        refine ⟨⟨n, s3, out ++ [c], by omega, R4, G4, by rw [List.map_append]; exact hown', Lib.hid L2.out.symm, by simp; omega⟩, ?_⟩
        rw [R4.len, hl1]; omega
    · rcases out with _ | ⟨c0, out⟩
      · obtain rfl : ANS = none := by simpa using L1.out
        go_wp2
        go_ret2
        exact ⟨_, _, rfl, R2.out, G2.out, _, _, _, rfl⟩
      · obtain rfl : ANS = some (c0 :: out, s2) := by simpa using L1.out
        go_wp2
        go_ret2
        exact ⟨_, rfl, R2.out, G2.out, O2.out⟩
end Go.Proofs.YthfdhanhkanhhaaDoor

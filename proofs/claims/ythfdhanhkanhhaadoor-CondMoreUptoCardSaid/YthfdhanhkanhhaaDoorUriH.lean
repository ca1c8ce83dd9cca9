/-
  The walks of the pieces between slashes: the reference's loop, strings.Split. Condition: the text is at most a million bytes.
-/
import Derived.Test.YthfdhanhkanhhaaDoorUriG
import Derived.Test.YthfdhanhkanhhaaDoorSplit
namespace Go.Proofs.YthfdhanhkanhhaaDoor
open Go.RowKit

/-- a list of strings handed back, in new memory or as it lay. -/
def RetStrs (ls : List (List UInt8)) (w : World) (e : Ending) (w' : World) : Prop := ∃ v, e = .returned v ∧ Strs w' v ls ∧ Below w.heap.size w w'
/-- bytes ahead of the first piece. -/
def glue (pre : List UInt8) : List (List UInt8) → List (List UInt8)
  | [] => [pre]
  | h :: t => (pre ++ h) :: t
theorem glue_nil {q : List (List UInt8)} (h : q ≠ []) : glue [] q = q := by
  cases q with
  | nil => exact absurd rfl h
  | cons a t => rfl
theorem glue_slash (pre r : List UInt8) : glue pre (piecesS (47 :: r)) = pre :: piecesS r := by
  simp [piecesS, glue]
theorem glue_other (pre r : List UInt8) (x : UInt8) (h : x ≠ 47) : glue pre (piecesS (x :: r)) = glue (pre ++ [x]) (piecesS r) := by
  have hn := piecesS_ne r
  simp only [piecesS, if_neg h]
  cases hp : piecesS r with
  | nil => exact absurd hp hn
  | cons a t => simp [glue]
theorem split_any (l : List UInt8) (w : World) (hs : l.length ≤ 1048576) (hE : Env w) :
    Calls Tryd.prog 28 #[.string ⟨l.toArray⟩, .string ⟨#[47]⟩] w (RetStrs (piecesS l) w) := by
  obtain ⟨m, hm⟩ := hE.maxLen
  refine (Tryd.strings_Split ⟨l.toArray⟩ ⟨#[47]⟩ m w (by show l.length < _; omega) hm (by decide)).mono ?_
  rintro e w' ⟨he, hw⟩
  have hc : Lib.countB ⟨l.toArray⟩ ⟨#[47]⟩ = l.count 47 := Lib.count_one 47 l
  have hd := Lib.splitB_data ⟨#[47]⟩ 0 (l.count 47) ⟨l.toArray⟩
  have hall := Lib.splitB_all ⟨#[47]⟩ (by decide) 0 (l.count 47) ⟨l.toArray⟩ hc
  have hd2 : (Lib.splitB ⟨#[47]⟩ 0 (l.count 47) ⟨l.toArray⟩).map (·.data.toList) = piecesS l := hd.trans (split_pieces l)
  rw [hc] at he hw
  generalize Lib.splitB ⟨#[47]⟩ 0 (l.count 47) ⟨l.toArray⟩ = L at hw hd2 hall
  have hL : L.map Value.string = vstrs (piecesS l) := by
    rw [← hd2]; unfold vstrs
    rw [List.map_map]
    rfl
  rw [hL] at hw
  have hlen : (piecesS l).length = l.count 47 + 1 := by rw [← hd2, List.length_map, hall]
  have hcl := List.count_le_length (a := (47 : UInt8)) (l := l)
  subst hw
  refine ⟨_, he, strs_of_rd ?_, (Below.refl _ _).alloc (Nat.le_refl _) _⟩
  have := (Own.lit (B := 0) 9 w (vstrs (piecesS l)).toArray (Nat.zero_le _) (by simp [vstrs_len]; unfold maxLen; omega)).rd
  simp only [List.size_toArray, vstrs_len, hlen] at this
  exact this

set_option maxHeartbeats 1000000 in
set_option maxRecDepth 100000 in
set_option linter.unusedSimpArgs false in
theorem pieces_any (l : List UInt8) (w : World) (hs : l.length ≤ 1048576) :
    Calls Tryd.prog 31 #[.string ⟨l.toArray⟩] w (RetStrs (piecesS l) w) := by
  obtain ⟨P, hP⟩ : ∃ P, piecesS l = P := ⟨_, rfl⟩
  rw [hP]
  have HP := Lib.hid hP
  clear hP
  go_enter Tryd.func31, Tryd.ntmps31
  go_wp2
  go_loopw [3, 4, 5] (fun v f i wr => ∃ k g done, i = .int .i64 (k : Nat) ∧ f = .int .i64 (g : Nat) ∧ Own 9 w.heap.size (vstrs done) v wr ∧ Below w.heap.size w wr ∧ done.length ≤ k ∧ k ≤ l.length + 1 ∧
      (k ≤ l.length → g ≤ k) ∧ Hid (k = l.length + 1 → done = P) ∧ Hid (k ≤ l.length → done ++ glue ((l.take k).drop g) (piecesS (l.drop k)) = P)) (fun _ _ i _ => l.length + 1 - (intOf i).toNat)
  case atStart => exact ⟨0, 0, [], rfl, rfl, Own.nil _ _ _, Below.refl _ _, Nat.le_refl _, by omega, fun _ => by omega, fun h => by omega, fun _ => by rw [← HP.out]; simp [glue_nil (piecesS_ne l)]⟩
  case round =>
    obtain ⟨k, g, done, rfl, rfl, hOw, hbw, hdk, hk, hgk, H1, H2⟩ := hrel
    have HO := Lib.hid hOw
    clear hOw
    have hWB : w.heap.size ≤ wr.heap.size := hbw.size
    by_cases hend : k = l.length + 1
    · subst hend
      clear hgk
      have hPe := H1.out rfl
      go_wp2
      go_ret
      exact ⟨_, rfl, by rw [← hPe]; exact strs_of_rd HO.out.rd, hbw⟩
    · have hkl : k ≤ l.length := by omega
      have hg := hgk hkl
      have H2' := H2.out hkl
      have H := Lib.hid H2'
      clear H1 H2 H2' hgk hend
      have hbd : ((vstrs done).length + 1) * 16 ≤ 140737488355328 := by rw [vstrs_len]; omega
      have HBD := Lib.hid hbd
      clear hbd
      rcases hd : l.drop k with _ | ⟨x, r⟩
      · have hk2 : k = l.length := by have := drop_nil hd; omega
        rw [hd] at H
        subst hk2
        clear hd
        go_wp2_with (at_builtin; refine wpList_appLit elemS rfl (.tmp 22) (.tmp 27) rfl w.heap.size (vstrs done) #[.string ⟨(l.drop g).toArray⟩] u3 rfl HO.out 1 rfl rfl (one1s _) HBD.out hWB ?_; intro v' w' hown' hb' hg')
        go_roundw
        case rel =>
          refine ⟨l.length + 1, l.length + 1, done ++ [l.drop g], by go_num, by go_num, ?_, hbw.trans hb', by simp; omega, by omega, fun h => by omega, fun _ => ?_, fun h => by omega⟩
          · rw [vstrs_app]; exact hown'
          · rw [← H.out]; simp [piecesS, glue, List.take_length]
        case measure => simp [intOf]
      · obtain ⟨hlt, hb, hr⟩ := drop_cons hd
        have hx := x.toNat_lt
        have hne : ((k : Int) == (l.length : Int)) = false := by rw [beq_eq_false_iff_ne]; omega
        have hne2 : (k == l.length) = false := by rw [beq_eq_false_iff_ne]; omega
        rw [hd] at H
        have hkx : (⟨l.toArray⟩ : ByteArray)[k]'hlt = x := hb hlt
        have ht : l.take (k + 1) = l.take k ++ [x] := by
          rw [List.take_succ_eq_append_getElem hlt]
          exact congrArg (fun y => l.take k ++ [y]) hkx
        have HT := Lib.hid ht
        have Hr := Lib.hid hr
        clear hr hd ht hkx
        by_cases hp : x = 47
        · subst hp
          go_wp2_with (at_builtin; refine wpList_appLit elemS rfl (.tmp 22) (.tmp 27) rfl w.heap.size (vstrs done) #[.string ⟨((l.take k).drop g).toArray⟩] u3 rfl HO.out 1 rfl rfl (one1s _) HBD.out hWB ?_; intro v' w' hown' hb' hg')
          go_roundw
          case rel =>
            refine ⟨k + 1, k + 1, done ++ [(l.take k).drop g], by go_num, by go_num, ?_, hbw.trans hb', by simp; omega, by omega, fun h => by omega, fun h => by omega, fun _ => ?_⟩
            · rw [vstrs_app]; exact hown'
            · rw [← H.out, glue_slash, Hr.out, List.append_assoc]
              rw [show (l.take (k + 1)).drop (k + 1) = [] by simp, glue_nil (piecesS_ne r)]
              rfl
          case measure => simp [intOf]; omega
        · have hne3 : ((x.toNat : Int) == 47) = false := by
            rw [beq_eq_false_iff_ne]; intro h; exact hp (UInt8.toNat_inj.1 (by show x.toNat = 47; omega))
          go_wp2
          go_roundw
          case rel =>
            refine ⟨k + 1, g, done, by go_num, rfl, HO.out, hbw, by omega, by omega, fun h => by omega, fun h => by omega, fun _ => ?_⟩
            rw [← H.out, glue_other _ _ _ hp, Hr.out, HT.out, List.drop_append_of_le_length (by simp; omega)]
          case measure => simp [intOf]; omega
end Go.Proofs.YthfdhanhkanhhaaDoor

/-
  The walk of reply's length. Conditions: what the listed variables hold; a text is shorter than a thousand million bytes.
-/
import Derived.Test.YtlkbfehdiopkbaaGreatDoorRepJ
namespace Go.Proofs.YtlkbfehdiopkbaaGreatDoor
open Go.RowKit

def LenP (v : List UInt8) (w : World) (e : Ending) (w' : World) : Prop :=
  ∃ n : Int, e = .returned (.tuple #[.int .i64 n, .bool (lengthS v).isSome]) ∧ (∀ m, lengthS v = some m → n = m) ∧ Below w.heap.size w w'
theorem lenP_no {v : List UInt8} {w w' : World} {n : Int} (h : lengthS v = none) (hb : Below w.heap.size w w') : LenP v w (.returned (.tuple #[.int .i64 n, .bool false])) w' :=
  ⟨n, by rw [h]; rfl, (fun m hm => by rw [h] at hm; cases hm), hb⟩
theorem lenP_yes {v : List UInt8} {w w' : World} {m : Nat} (h : lengthS v = some m) (hb : Below w.heap.size w w') : LenP v w (.returned (.tuple #[.int .i64 m, .bool true])) w' :=
  ⟨m, by rw [h]; rfl, (fun m' hm => by rw [h] at hm; injection hm with hm; rw [hm]), hb⟩
set_option maxHeartbeats 1000000 in
set_option maxRecDepth 100000 in
set_option linter.unusedSimpArgs false in
theorem length_any (v : List UInt8) (w : World) (hv : v.length ≤ 1000000000) (hE : Env w) :
    Calls Tryz.prog 46 #[.string ⟨v.toArray⟩] w (LenP v w) := by
  have HAt := Lib.hid (atoi_any v w hv hE)
  rcases hl : lengthS v with _ | m
  · have HL := Lib.hid hl
    have HNo := Lib.hid (fun n h0 h1 => @length_no v n hl h0 h1)
    have HSt := Lib.hid (fun n (h : Lib.atoiAll v = .ok n) => (show stS v = n by unfold stS; rw [h]))
    clear hl
    go_enter Tryz.func46, Tryz.ntmps46
    go_wp2_with fail
    refine HAt.out.mono ?_
    rintro e w1 ⟨ev, rfl, hev, hb⟩
    have HE1 := Lib.hid (hE.below hb)
    rcases hev with ⟨n, hn, rfl⟩ | ⟨-, t, p, rfl⟩
    · have h1 := HSt.out n hn
      rw [h1]
      clear h1 hn HAt HSt
      by_cases h0 : n < 0
      · clear HNo
        go_wp2
        go_ret2
        exact lenP_no HL.out hb
      · by_cases h6 : n ≤ 65536
        · have hne := HNo.out n (by omega) h6
          have hg0 : 0 ≤ n := by omega
          have HI := Lib.hid (itoa_any n w1 (by omega) (by omega) HE1.out)
          have hne2 : (Lib.itoa n == v) = false := by rw [beq_eq_false_iff_ne]; exact hne
          generalize Lib.itoa n = D at *
          clear HNo hne h0
          go_wp2_with fail
          refine HI.out.mono ?_
          rintro e w2 ⟨rfl, hb2⟩
          go_wp2
          go_ret2
          exact lenP_no HL.out (hb.trans (hb2.mono hb.size))
        · have hg0 : 0 ≤ n := by omega
          clear HNo
          go_wp2
          go_ret2
          exact lenP_no HL.out hb
    · clear HAt HSt HNo
      generalize stS v = n at *
      go_wp2
      go_ret2
      exact lenP_no HL.out hb
  · obtain ⟨hm, hd⟩ := length_yes hl
    have HL := Lib.hid hl
    have hat : Lib.atoiAll v = .ok m := by rw [← hd]; exact atoi_dig m (by omega)
    have hst : stS v = m := by unfold stS; rw [hat]
    have HAt2 := Lib.hid hat
    have hit : Lib.itoa m = v := by rw [digS_itoa, hd]
    have HI := Lib.hid (fun w1 hE => itoa_any m w1 (by omega) (by omega) hE)
    rw [hit] at HI
    unfold AtoiP at HAt
    rw [hst] at HAt
    clear hl hd hat hst hit
    go_enter Tryz.func46, Tryz.ntmps46
    go_wp2_with fail
    refine HAt.out.mono ?_
    rintro e w1 ⟨ev, rfl, hev, hb⟩
    have HE1 := Lib.hid (hE.below hb)
    rcases hev with ⟨n, hn, rfl⟩ | ⟨hno, -⟩
    · clear hn HAt HAt2
      go_wp2_with fail
      refine (HI.out _ HE1.out).mono ?_
      rintro e w2 ⟨rfl, hb2⟩
      go_wp2
      go_ret2
      exact lenP_yes HL.out (hb.trans (hb2.mono hb.size))
    · exact absurd HAt2.out (hno m)
end Go.Proofs.YtlkbfehdiopkbaaGreatDoor

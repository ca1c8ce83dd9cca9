import Derived.Test.YtjkiehmjffgnlaaGreatDoorShelfP
import Derived.Test.YtjkiehmjffgnlaaGreatDoorShelfB
import Derived.Test.YtjkiehmjffgnlaaGreatDoorUtf8
import Derived.Lib.OthersKept
import Derived.Deep.LoopGhost
import Derived.Deep.QuietTactic
import Derived.BigQuiet
namespace Go.Proofs.YtjkiehmjffgnlaaGreatDoor
open Go.RowKit

set_option maxHeartbeats 400000 in
set_option maxRecDepth 100000 in
set_option linter.unusedSimpArgs false in
theorem indexRune_err (c : List UInt8) (w : World) (hc : ∀ (i : Nat) b, c[i]? = some b → b.toNat < 128) (hl : c.length < 1000000) :
    Calls Tryz.prog 136 #[.string ⟨c.toArray⟩, .int .i32 65533] w (Ret (.int .i64 (-1)) w) := by
  have HC := Lib.hid hc
  clear hc
  go_enter Tryz.func136, Tryz.ntmps136
  go_wp2
  go_loopw [5, 6] (fun _ _ wx => ∃ i : Nat, i ≤ c.length ∧ wx = w.iter ⟨c.toArray⟩ i) (fun _ _ wx => c.length - (match wx.heap[w.heap.size]? with | some (.stringIter _ p) => p | _ => 0))
  case atStart => exact ⟨0, by omega, rfl⟩
  case round => 
    obtain ⟨i, hi, rfl⟩ := hrel
    by_cases hlt : i < c.length
    · obtain ⟨x, hx⟩ : ∃ x, c[i]? = some x := ⟨_, List.getElem?_eq_getElem hlt⟩
      have h7 := HC.out i x hx
      have hxx : ((⟨c.toArray⟩ : ByteArray)[i]'hlt) = x := by
        rw [List.getElem?_eq_getElem hlt] at hx
        exact Option.some.inj hx
      have hnx := fun ty => run_next_ascii (P := Tryz.prog) w ⟨c.toArray⟩ i ty hlt (by rw [hxx]; exact h7)
      rw [hxx] at hnx
      have Hx := Lib.hid hx
      clear hx hxx
      have h7z : (x.toNat : Int) < 128 := by omega
      go_wp2
      refine ⟨⟨i + 1, by omega, rfl⟩, ?_⟩
      rw [World.iter_heap, World.iter_heap]
      show c.length - (i + 1) < c.length - i
      omega
    · have hnx := run_next_end (P := Tryz.prog) w ⟨c.toArray⟩ i
      go_wp2
      go_ret
      exact ⟨rfl, (Below.refl _ _).alloc (Nat.le_refl _) _⟩
theorem indexByte_asc (c : List UInt8) (y : UInt8) (hy : 128 ≤ y.toNat) : (∀ b ∈ c, b.toNat < 128) → Lib.indexByte c y = -1 := by
  induction c with
  | nil => intro _; rfl
  | cons b l ih =>
    intro h
    have hb := h b (by simp)
    have hne : (b == y) = false := by
      rw [beq_eq_false_iff_ne]; rintro rfl; omega
    simp [Lib.indexByte, hne, ih (fun x hx => h x (by simp [hx]))]
set_option maxHeartbeats 400000 in
set_option maxRecDepth 100000 in
set_option linter.unusedSimpArgs false in
theorem indexRune_hi (c : List UInt8) (r : Int) (w : World) (hc : ∀ (i : Nat) b, c[i]? = some b → b.toNat < 128) (_hl : c.length < 1000000) (h0 : 128 ≤ r) (h1 : r ≤ 1114111) (hv : Lib.validRune r = true) (hvu : Utf8.valid r = true) (he : r ≠ 65533) :
    Calls Tryz.prog 136 #[.string ⟨c.toArray⟩, .int .i32 r] w (Ret (.int .i64 (-1)) w) := by
  have HC := Lib.hid hc
  clear hc
  have hre : (r == 65533) = false := by simpa using he
  obtain ⟨e1, e2, e3⟩ := encode_facts r hvu h0
  obtain ⟨rs, hrs⟩ : ∃ rs, Utf8.encode r = rs := ⟨_, rfl⟩
  rw [hrs] at e1 e2 e3
  obtain ⟨m, hm⟩ : ∃ m, rs.size = m + 1 := ⟨rs.size - 1, by omega⟩
  have e4 : m < rs.size := by omega
  obtain ⟨y, hy⟩ : ∃ y, rs[m]'e4 = y := ⟨_, rfl⟩
  have hy1 : 128 ≤ y.toNat := by rw [← hy]; have := e3 (by omega); simpa [hm] using this
  have hyl := y.toNat_lt
  have m1 : 1 ≤ m := by omega
  have m2 : m ≤ 3 := by omega
  clear he e3 hvu e1 e2
  by_cases hlt : m < c.length
  · obtain ⟨x, hx⟩ : ∃ x, c[m]? = some x := ⟨_, List.getElem?_eq_getElem hlt⟩
    have h7 := HC.out _ x hx
    have hxx : ((⟨c.toArray⟩ : ByteArray)[m]'hlt) = x := by
      rw [List.getElem?_eq_getElem hlt] at hx
      exact Option.some.inj hx
    clear hx
    have hne : (!((x.toNat : Int) == (y.toNat : Int))) = true := by rw [Bool.not_eq_true', beq_eq_false_iff_ne]; omega
    have hib1 : Lib.indexByte (c.drop (m + 1)) y = -1 := indexByte_asc (c.drop (m + 1)) y hy1 (fun b hb => by
      obtain ⟨j, hj⟩ := List.mem_iff_getElem?.1 (List.mem_of_mem_drop hb)
      exact HC.out j b hj)
    have hib2 : Lib.indexByte (c.drop (m + 1)) y.toNat.toUInt8 = -1 := by rw [← hib1]; simp
    have s1 : IntKind.i64.wrap ((m : Int) + 1) = (m : Int) + 1 := IntWalk.i64_in _ (by omega)
    have s2 : (0 : Int) ≤ (m : Int) + 1 := by omega
    have s3 : ((m : Int) + 1).toNat = m + 1 := by omega
    go_enter Tryz.func136, Tryz.ntmps136
    go_wp2_with fail
    refine (Tryz.utf8_ValidRune r _).mono ?_
    rintro e w' ⟨rfl, hw⟩
    obtain rfl := hw.symm
    rw [hv]
    go_wp2
    go_step3
    go_wp2
    refine wp_loop_rounds 1 ?_
    rw [rounds_succ]
    go_wp2
    go_step3
    go_wp2
    go_quiet (fail)
    go_wp2
    go_quiet ((go_at_call 60; exact quiet2 (Tryz.strings_IndexByte _ _ _)))
    go_wp2
    rw [Exit.noGoto_ret]
    go_wp2
    rw [Exit.noGoto_ret]
    go_wp2
    go_ret
    exact ⟨rfl, below_draws (Below.refl _ _) _⟩
  · go_enter Tryz.func136, Tryz.ntmps136
    go_wp2_with fail
    refine (Tryz.utf8_ValidRune r _).mono ?_
    rintro e w' ⟨rfl, hw⟩
    obtain rfl := hw.symm
    rw [hv]
    go_wp2
    go_step3
    go_wp2
    refine wp_loop_rounds 1 ?_
    rw [rounds_succ]
    go_wp2
    rw [Exit.noGoto_ret]
    go_wp2
    go_ret
    exact ⟨rfl, Below.refl _ _⟩
theorem indexRune_any (c : List UInt8) (r : Int) (w : World) (hc : ∀ (i : Nat) b, c[i]? = some b → b.toNat < 128) (hl : c.length < 1000000) (h0 : 128 ≤ r) (h1 : r ≤ 1114111) (hv : r < 55296 ∨ 57343 < r) :
    Calls Tryz.prog 136 #[.string ⟨c.toArray⟩, .int .i32 r] w (Ret (.int .i64 (-1)) w) := by
  by_cases he : r = 65533
  · subst he; exact indexRune_err c w hc hl
  · exact indexRune_hi c r w hc hl h0 h1 (by unfold Lib.validRune; simp; omega) (by unfold Utf8.valid; simp; omega) he

set_option maxHeartbeats 400000 in
set_option maxRecDepth 100000 in
set_option linter.unusedSimpArgs false in
theorem indexAny_short (l c : List UInt8) (w : World) (hc : ∀ (i : Nat) b, c[i]? = some b → b.toNat < 128) (hl : c.length < 1000000) (h2 : 2 ≤ c.length) (h8 : l.length ≤ 8) :
    Calls Tryz.prog 115 #[.string ⟨l.toArray⟩, .string ⟨c.toArray⟩] w (Ret (.int .i64 (Lib.indexAny l c)) w) := by
  have HC := Lib.hid hc
  clear hc
  have hn1 : ((c.length : Int) == 1) = false := beq_eq_false_iff_ne.2 (by omega)
  have hn2 : c.isEmpty = false := by cases c with
    | nil => simp at h2
    | cons _ _ => rfl
  have h8z : decide ((8 : Int) < (l.length : Int)) = false := decide_eq_false (by omega)
  obtain ⟨ANS, hA⟩ : ∃ A, Lib.indexAny l c = A := ⟨_, rfl⟩
  rw [hA]
  have HA := Lib.hid hA
  clear hA
  go_enter Tryz.func115, Tryz.ntmps115
  go_wp2_with (go_at_call 137; refine (Tryz.strings_shouldUseASCIISet _ _).mono ?_; rintro e w' ⟨rfl, hw⟩; rw [hw, h8z])
  go_loopg [9, 10] l.length (fun gk _ _ wx => ∃ i : Nat, i + gk = l.length ∧ wx.heap[w.heap.size]? = some (.stringIter ⟨l.toArray⟩ i) ∧ Below w.heap.size w wx ∧ Hid (Lib.NoAny l c i))
  case atStart => exact ⟨0, by omega, World.iter_heap .., (Below.refl _ _).alloc (Nat.le_refl _) _, Lib.NoAny.zero _ _⟩
  case round =>
    obtain ⟨i, hig, hit, hbw, HN⟩ := hrel
    have Hit := Lib.hid hit
    clear hit
    by_cases hlt : i < l.length
    · have hnx := fun ty => Lib.run_next_any_at (P := Tryz.prog) wr w.heap.size ⟨l.toArray⟩ i ty Hit.out hlt
      have hdl : Lib.decodeL (l.drop i) = Utf8.decode ⟨l.toArray⟩ i := Lib.decodeL_drop ⟨l.toArray⟩ i
      rw [← hdl] at hnx
      have hcl := decode_class (l.drop i) (by rw [List.length_drop]; omega)
      have hwd := Lib.decodeL_width (l.drop i)
      generalize Lib.decodeL (l.drop i) = dd at hnx hcl hwd
      obtain ⟨cp, wd⟩ := dd
      have hB : w.heap.size < wr.heap.size := by
        rcases Nat.lt_or_ge w.heap.size wr.heap.size with h | h
        · exact h
        · have := Hit.out; rw [Array.getElem?_eq_none h] at this; cases this
      have hit2 := Lib.iterAt_heap wr w.heap.size ⟨l.toArray⟩ i (i + wd) Hit.out
      have hbw2 : Below w.heap.size w (wr.iterAt w.heap.size ⟨l.toArray⟩ (i + wd)) := Lib.below_iterAt hbw (Nat.le_refl _) _ _
      have Hit2 := Lib.hid hit2
      clear hit2 hdl
      rcases hcl with ⟨x, hx, hx7, hxe⟩ | ⟨k1, k2, k3, k4, k5⟩
      · injection hxe with e1 e2
        subst e1 e2
        have hxi : l[i]? = some x := by rw [List.getElem?_drop] at hx; exact hx
        have Hx := Lib.hid hxi
        clear hx hxi
        have hx7z : (x.toNat : Int) < 128 := by omega
        cases hin : c.contains x with
        | false =>
          have hcon := Lib.contains_iff_indexByte c x
          rw [hin] at hcon
          have hcon1 : decide ((0 : Int) ≤ Lib.indexByte c x) = false := hcon.symm
          have hcon2 : decide ((0 : Int) ≤ Lib.indexByte c x.toNat.toUInt8) = false := by rw [← hcon1]; simp
          have Hin := Lib.hid hin
          clear hcon hin
          go_wp2_with (go_at_call 136; refine (Tryz.strings_IndexRune_ascii _ _ _ (by omega) (by omega)).mono ?_; rintro e w' ⟨rfl, hw⟩; obtain rfl := hw.symm)
          go_roundg (gk - 1)
          case measure => omega
          case rel => exact ⟨i + 1, by omega, Hit2.out, hbw2, HN.out.succ Hx.out Hin.out⟩
        | true =>
          have hcon := Lib.contains_iff_indexByte c x
          rw [hin] at hcon
          have hcon1 : decide ((0 : Int) ≤ Lib.indexByte c x) = true := hcon.symm
          have hcon2 : decide ((0 : Int) ≤ Lib.indexByte c x.toNat.toUInt8) = true := by rw [← hcon1]; simp
          have Hin := Lib.hid hin
          clear hcon hin
          go_wp2_with (go_at_call 136; refine (Tryz.strings_IndexRune_ascii _ _ _ (by omega) (by omega)).mono ?_; rintro e w' ⟨rfl, hw⟩; obtain rfl := hw.symm)
          go_ret
          exact ⟨ret_int (by rw [← HA.out, Lib.indexAny_hit HN.out Hx.out Hin.out]), hbw2⟩
      · rw [List.length_drop] at k4
        have K5 := Lib.hid k5
        clear k5
        have k6 : (128 : Int) ≤ (cp : Int) := by omega
        have k7 : (cp : Int) ≤ 1114111 := by omega
        have k8 : (cp : Int) < 55296 ∨ 57343 < (cp : Int) := by omega
        simp only at hwd k4
        go_wp2_with (go_at_call 136; refine (indexRune_any _ _ _ HC.out (by omega) k6 k7 k8).mono ?_; rintro e w' ⟨rfl, hb'⟩)
        go_roundg (gk - wd)
        case measure => omega
        case rel =>
          refine ⟨i + wd, by omega, ?_, hbw2.trans (hb'.mono (by rw [Lib.iterAt_size]; omega)), ?_⟩
          · rw [hb'.block _ (by rw [Lib.iterAt_size]; exact hB)]; exact Hit2.out
          · intro j b hj hjb
            by_cases e : j < i
            · exact HN.out j b e hjb
            · have h128 := K5.out (j - i) b (by show j - i < wd; omega) (by rw [List.getElem?_drop, ← hjb]; congr 1; omega)
              rw [← Bool.not_eq_true]
              intro hb
              obtain ⟨q, hq⟩ := List.mem_iff_getElem?.1 (List.contains_iff_mem.1 hb)
              have := HC.out q b hq
              omega
    · have hnx := fun ty => Lib.run_next_end_at (P := Tryz.prog) wr w.heap.size ⟨l.toArray⟩ i ty Hit.out hlt
      obtain rfl : i = l.length := by omega
      go_wp2
      go_ret
      exact ⟨ret_int (by rw [← HA.out, Lib.indexAny_none HN.out]), hbw⟩

theorem zero_ascii (w : World) : (zeroValue 192).run Tryz.prog w = .ok (.agg (Array.replicate 256 (.bool false))) w := by kernel_rfl
/-- strings.IndexAny where chars are two ASCII bytes or more. -/
theorem indexAny_any (l c : List UInt8) (w : World) (hc : ∀ (i : Nat) b, c[i]? = some b → b.toNat < 128) (hl : c.length < 1000000) (h2 : 2 ≤ c.length) (hs : l.length < 4294967281) :
    Calls Tryz.prog 115 #[.string ⟨l.toArray⟩, .string ⟨c.toArray⟩] w (Ret (.int .i64 (Lib.indexAny l c)) w) := by
  by_cases h8 : l.length ≤ 8
  · exact indexAny_short l c w hc hl h2 h8
  · refine (Tryz.strings_IndexAny_long zero_ascii ⟨l.toArray⟩ ⟨c.toArray⟩ w h2 (by show 8 < l.length; omega) hs (by show c.length < _; omega) hc).mono ?_
    rintro e w' ⟨he, hw⟩
    subst hw
    exact ⟨he, ((Below.refl w.heap.size w).alloc (Nat.le_refl _) _).alloc (by show w.heap.size ≤ (w.heap.push _).size; simp) _⟩
set_option maxHeartbeats 400000 in
set_option maxRecDepth 100000 in
set_option linter.unusedSimpArgs false in
theorem containsAny_any (l c : List UInt8) (w : World) (hc : ∀ (i : Nat) b, c[i]? = some b → b.toNat < 128) (hl : c.length < 1000000) (h2 : 2 ≤ c.length) (hs : l.length < 4294967281) :
    Calls Tryz.prog 121 #[.string ⟨l.toArray⟩, .string ⟨c.toArray⟩] w (Ret (.bool (Lib.containsAny l c)) w) := by
  go_enter Tryz.func121, Tryz.ntmps121
  go_wp2_with (go_at_call 115; refine (indexAny_any _ _ _ hc hl h2 hs).mono ?_; rintro e w' ⟨rfl, hb⟩)
  go_ret
  exact ⟨rfl, hb⟩
end Go.Proofs.YtjkiehmjffgnlaaGreatDoor

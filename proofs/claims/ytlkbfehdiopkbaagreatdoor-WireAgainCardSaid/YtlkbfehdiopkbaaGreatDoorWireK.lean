/-
  The walk of the statement on the front of the bytes. Conditions: the bounds; what the listed variables hold.
-/
import Derived.Test.YtlkbfehdiopkbaaGreatDoorWireJ
namespace Go.Proofs.YtlkbfehdiopkbaaGreatDoor
set_option linter.unusedVariables false
set_option linter.unusedSimpArgs false
open Go.RowKit

/-- what Read hands back, told in one way. -/
def OutP (q : ReqT) (n s : Int) (w : World) (e : Ending) (w' : World) : Prop :=
  Below w.heap.size w w' ∧ ∃ hv, e = .returned (.tuple #[reqV q hv, .int .i64 n, .int .i64 s]) ∧ Hdrs w' hv q.hdrs
theorem out_no {N : Nat} {x : Rd1 ReqT} {w w' : World} {e : Ending} {st : Int} (hx : x = .error st) (h : WReadP N x w e w') : OutP zq 0 st w e w' := by
  subst hx
  exact ⟨h.1, .slice none 0 0, h.2, Hdrs.nil _⟩
theorem out_ok {N : Nat} {x : Rd1 ReqT} {w w' : World} {e : Ending} {q : ReqT} {r : List UInt8} (hx : x = .ok (q, r)) (h : WReadP N x w e w') : OutP q ((N : Int) - r.length) 0 w e w' := by
  subst hx
  obtain ⟨hb, hv, he, ho⟩ := h
  exact ⟨hb, hv, he, own_hdrs ho⟩
/-- the request q lies in block b. -/
structure InQ (w : World) (b : Nat) (wx : World) (q : ReqT) (hv : Value) : Prop where
  row : wx.heap[b]? = some (.cells #[.string ⟨q.method.toArray⟩, .string ⟨q.target.toArray⟩, hv, .string ⟨q.body.toArray⟩, .bool q.close] 26 (0, 0))
  hh : Hdrs wx hv q.hdrs
  bel : Below w.heap.size w wx
section
variable {w wx wy : World} {b : Nat} {q : ReqT} {hv : Value}
theorem InQ.lt (h : InQ w b wx q hv) : b < wx.heap.size := (Array.getElem?_eq_some_iff.1 h.row).1
theorem InQ.keep (h : InQ w b wx q hv) (hb : Below wx.heap.size wx wy) : InQ w b wy q hv := ⟨(hb.block b h.lt).trans h.row, h.hh.below hb (Nat.le_refl _), h.bel.trans (hb.mono h.bel.size)⟩
theorem InQ.mk' (hb : Below w.heap.size w wx) (hh : Hdrs wx hv q.hdrs) (b : Nat) (e : wx.heap.size = b) : InQ w b (wx.alloc (.cells #[.string ⟨q.method.toArray⟩, .string ⟨q.target.toArray⟩, hv, .string ⟨q.body.toArray⟩, .bool q.close] 26 (0, 0))) q hv := by
  subst e
  exact ⟨heap_alloc_new wx _, hh.below ((Below.refl _ wx).alloc (Nat.le_refl _) _) (Nat.le_refl _), hb.alloc hb.size _⟩
theorem InQ.alloc (h : InQ w b wx q hv) (o : Obj) : InQ w b (wx.alloc o) q hv := h.keep ((Below.refl _ wx).alloc (Nat.le_refl _) o)
end
set_option maxHeartbeats 4000000 in
set_option maxRecDepth 100000 in
set_option linter.unusedSimpArgs false in
theorem front_walk (buf behind : List UInt8) (cut : Nat) (q1 q2 : ReqT) (n1 s1 n2 s2 : Int) (B : Bool) (w : World) (hE : Env w) (hcut : cut ≤ 65535) (hl : buf.length ≤ 50000000) (hl2 : behind.length ≤ 10000000)
    (H1 : ∀ w', Below w.heap.size w w' → Calls Tryz.prog 13 #[.string ⟨buf.toArray⟩] w' (OutP q1 n1 s1 w'))
    (H2 : ∀ w', Below w.heap.size w w' → Calls Tryz.prog 13 #[.string ⟨(buf ++ behind).toArray⟩] w' (OutP q2 n2 s2 w'))
    (H3 : ∀ w', Below w.heap.size w w' → s1 = 0 → Calls Tryz.prog 13 #[.string ⟨(buf.take (cut % n1.toNat)).toArray⟩] w' (OutP zq 0 (-1) w'))
    (HS : ∀ w' v1 v2, Hdrs w' v1 q1.hdrs → Hdrs w' v2 q2.hdrs → Calls Tryz.prog 14 #[reqV q1 v1, reqV q2 v2] w' (Ret (.bool B) w'))
    (hP : (s1 = -1 ∧ (B = true ∨ (buf.length : Int) < n2)) ∨ (s1 ≠ -1 ∧ s1 = s2 ∧ n1 = n2 ∧ B = true ∧ ((s1 ≠ 0 ∧ n1 = 0 ∧ 400 ≤ s1 ∧ s1 ≤ 505) ∨ (s1 = 0 ∧ 1 ≤ n1 ∧ n1 ≤ buf.length)))) :
    Calls Tryz.prog 3 #[.string ⟨buf.toArray⟩, .string ⟨behind.toArray⟩, .int .u16 cut] w (Ret (.bool true) w) := by
  have HFx := Lib.hid (fixed11_any w hE)
  have HR1 := Lib.hid H1
  have HR2 := Lib.hid H2
  have HR3 := Lib.hid H3
  have HSm := Lib.hid HS
  have HP := Lib.hid hP
  clear H1 H2 H3 HS hP hE
  obtain ⟨m1, t1, h1, b1, c1⟩ := q1
  obtain ⟨m2, t2, h2, b2, c2⟩ := q2
  unfold reqV at HSm
  simp only at *
  go_enter Tryz.func3, Tryz.ntmps3
  go_wp2_with fail
  refine HFx.out.mono ?_
  rintro e w1 ⟨rfl, hb1⟩
  clear HFx
  go_wp2_with fail
  refine (HR1.out w1 hb1).mono ?_
  rintro e w2 ⟨hb2, v1, rfl, hh1⟩
  unfold reqV
  have hh1' := hh1
  obtain ⟨A1, k1, rfl, -, -, -⟩ := hh1'
  simp only at *
  have I2 := InQ.mk' (q := ⟨m1, t1, h1, b1, c1⟩) (hb1.trans (hb2.mono hb1.size)) hh1 _ rfl
  simp only at I2
  clear hb1 hb2 hh1
  go_wp2_with fail
  generalize w2.heap.size = p at *
  generalize w2.alloc (.cells #[.string ⟨m1.toArray⟩, .string ⟨t1.toArray⟩, .slice A1 h1.length k1, .string ⟨b1.toArray⟩, .bool c1] 26 (0, 0)) = w3 at *
  refine (HR2.out w3 I2.bel).mono ?_
  rintro e w4 ⟨hb4, v2, rfl, hh2⟩
  unfold reqV
  have hh2' := hh2
  obtain ⟨A2, k2, rfl, -, -, -⟩ := hh2'
  simp only at *
  have K4 := I2.keep hb4
  have I4 := K4.alloc (.cells #[.string ⟨m2.toArray⟩, .string ⟨t2.toArray⟩, .slice A2 h2.length k2, .string ⟨b2.toArray⟩, .bool c2] 26 (0, 0))
  have J4 := InQ.mk' (q := ⟨m2, t2, h2, b2, c2⟩) (I2.bel.trans (hb4.mono I2.bel.size)) hh2 _ rfl
  simp only at J4
  have hpq : p < w4.heap.size := Nat.lt_of_lt_of_le I2.lt hb4.size
  clear I2 hb4 hh2
  have HI := Lib.hid I4
  have HJ := Lib.hid J4
  have C0 := at5 K4.row 0
  have C1 := at5 K4.row 1
  have C2 := at5 K4.row 2
  have C3 := at5 K4.row 3
  have C4 := at5 K4.row 4
  simp only [List.getElem?_toArray, List.getElem?_cons_zero, List.getElem?_cons_succ] at C0 C1 C2 C3 C4
  clear I4 J4 K4
  rcases HP.out with ⟨rfl, hB⟩ | ⟨hs1, rfl, rfl, rfl, hP⟩
  · clear HP HR1 HR2 HR3
    go_wp2_with fail
    refine (HSm.out _ _ _ HI.out.hh HJ.out.hh).mono ?_
    rintro e w5 ⟨rfl, hb5⟩
    have hbl := HI.out.bel.trans (hb5.mono HI.out.bel.size)
    clear HI HJ HSm C0 C1 C2 C3 C4 hb5
    cases B
    · have hlt := hB.resolve_left (by simp)
      clear hB
      go_wp2
      go_ret
      exact ⟨rfl, hbl⟩
    · go_wp2
      go_ret
      exact ⟨rfl, hbl⟩
  · clear HP HR1 HR2
    rcases hP with ⟨h0, rfl, h400, h505⟩ | ⟨rfl, h1n, h2n⟩
    · clear HR3
      go_wp2_with fail
      refine (HSm.out _ _ _ HI.out.hh HJ.out.hh).mono ?_
      rintro e w5 ⟨rfl, hb5⟩
      have hbl := HI.out.bel.trans (hb5.mono HI.out.bel.size)
      clear HI HJ HSm C0 C1 C2 C3 C4 hb5
      go_wp2
      go_ret
      exact ⟨rfl, hbl⟩
    · obtain ⟨N, rfl⟩ : ∃ N : Nat, n1 = N := ⟨n1.toNat, by omega⟩
      rw [Int.toNat_natCast] at HR3
      go_wp2_with fail
      refine (HSm.out _ _ _ HI.out.hh HJ.out.hh).mono ?_
      rintro e w5 ⟨rfl, hb5⟩
      have HB := Lib.hid (HI.out.bel.trans (hb5.mono HI.out.bel.size))
      clear HI HJ HSm C0 C1 C2 C3 C4 hb5
      have hq : cut % N < N := Nat.mod_lt _ (by omega)
      obtain ⟨x, hx⟩ : ∃ x, x = cut % N := ⟨_, rfl⟩
      rw [← hx] at HR3 hq
      have m3 : (cut : Int).tmod (N : Int) = (x : Int) := by rw [hx]; rfl
      have m4 : (x : Int) ≤ buf.length := by omega
      have m5 : (0 : Int) ≤ (x : Int) := by omega
      have m7 : ((N : Int) == 0) = false := beq_eq_false_iff_ne.2 (by omega)
      have m8 : x ≤ buf.length := by omega
      have m10 : IntKind.i64.wrap (x : Int) = x := IntWalk.i64_in _ (by omega)
      have m11 : IntKind.i64.wrap (cut : Int) = cut := IntWalk.i64_in _ (by omega)
      clear hx
      have m12 : ∀ w, (Instr.slice 9 (.string ⟨buf.toArray⟩) none (some (.int .i64 (x : Int))) none).run Tryz.prog w = .ok (.string ⟨(buf.take x).toArray⟩) w := fun w => by
        go_simp
      go_wp2_with fail
      refine (HR3.out w5 HB.out trivial).mono ?_
      rintro e w6 ⟨hb6, hv, rfl, hh⟩
      obtain ⟨A3, k3, rfl, -, -, -⟩ := hh
      have hbl := (HB.out.trans (hb6.mono HB.out.size)).alloc (HB.out.trans (hb6.mono HB.out.size)).size (.cells #[.string ⟨#[]⟩, .string ⟨#[]⟩, .slice A3 0 k3, .string ⟨#[]⟩, .bool false] 26 (0, 0))
      unfold reqV zq
      simp only
      clear HR3 HB hb6
      go_wp2_with fail
      go_ret
      exact ⟨rfl, hbl⟩
theorem law_front (buf behind : List UInt8) (cut : Nat) (w : World) (hl : buf.length ≤ 50000000) (hl2 : behind.length ≤ 10000000) (hcut : cut ≤ 65535) (hE : Env w) :
    Calls Tryz.prog 3 #[.string ⟨buf.toArray⟩, .string ⟨behind.toArray⟩, .int .u16 cut] w (Ret (.bool true) w) := by
  have H1 := fun w' (hb : Below w.heap.size w w') => wread_any buf w' (by omega) (hE.below hb)
  have H2 := fun w' (hb : Below w.heap.size w w') => wread_any (buf ++ behind) w' (by rw [List.length_append]; omega) (hE.below hb)
  have HZ : ∀ w' v1 v2, Hdrs w' v1 zq.hdrs → Hdrs w' v2 zq.hdrs → Calls Tryz.prog 14 #[reqV zq v1, reqV zq v2] w' (Ret (.bool true) w') := fun w' v1 v2 h1 h2 => wsame_any zq v1 v2 w' h1 h2
  have hap : (buf ++ behind).length = buf.length + behind.length := List.length_append
  rcases hx : readW buf with st | ⟨q, r⟩
  · by_cases hst : st = -1
    · subst hst
      rcases hy : readW (buf ++ behind) with st2 | ⟨q, r⟩
      · exact front_walk buf behind cut zq zq 0 (-1) 0 st2 true w hE hcut hl hl2 (fun w' hb => (H1 w' hb).mono fun e w'' h => out_no hx h) (fun w' hb => (H2 w' hb).mono fun e w'' h => out_no hy h) (fun _ _ h => absurd h (by decide)) HZ (.inl ⟨rfl, .inl rfl⟩)
      · have hm := (readW_parts hy).1
        have hlt := front_more hx hy
        exact front_walk buf behind cut zq q 0 (-1) _ 0 false w hE hcut hl hl2 (fun w' hb => (H1 w' hb).mono fun e w'' h => out_no hx h) (fun w' hb => (H2 w' hb).mono fun e w'' h => out_ok hy h) (fun _ _ h => absurd h (by decide))
          (fun w' v1 v2 h1 h2 => wsame_zero q v1 v2 w' (tokS_iff q.method |>.1 hm).1 h1 h2) (.inl ⟨rfl, .inr (by rw [hap]; omega)⟩)
    · obtain ⟨hy, h4, h5⟩ := front_no hx hst behind
      exact front_walk buf behind cut zq zq 0 st 0 st true w hE hcut hl hl2 (fun w' hb => (H1 w' hb).mono fun e w'' h => out_no hx h) (fun w' hb => (H2 w' hb).mono fun e w'' h => out_no hy h) (fun _ _ h => by omega) HZ (.inr ⟨hst, rfl, rfl, rfl, .inl ⟨by omega, rfl, h4, h5⟩⟩)
  · obtain ⟨hy, hr, hk⟩ := front_ok hx behind
    have e2 : ((buf ++ behind).length : Int) - (r ++ behind).length = (buf.length : Int) - r.length := by rw [hap, List.length_append]; omega
    exact front_walk buf behind cut q q ((buf.length : Int) - r.length) 0 ((buf.length : Int) - r.length) 0 true w hE hcut hl hl2 (fun w' hb => (H1 w' hb).mono fun e w'' h => out_ok hx h) (fun w' hb => (H2 w' hb).mono fun e w'' h => e2 ▸ out_ok hy h)
      (fun w' hb _ => (wread_any _ w' (by rw [List.length_take]; omega) (hE.below hb)).mono fun e w'' h => out_no (hk _ (by
        have e3 : ((buf.length : Int) - r.length).toNat = buf.length - r.length := by omega
        rw [e3]
        exact Nat.mod_lt _ (by omega))) h)
      (fun w' v1 v2 h1 h2 => wsame_any q v1 v2 w' h1 h2) (.inr ⟨by decide, rfl, rfl, rfl, .inr ⟨rfl, by omega, by omega⟩⟩)
end Go.Proofs.YtlkbfehdiopkbaaGreatDoor

/-
  The walk of wire's begin. Conditions: the reader and the request lie in blocks of their own; the bytes are fewer than a hundred million; what the listed variables hold.
-/
import Derived.Test.YtlkbfehdiopkbaaGreatDoorWireD
import Derived.RegionTactic
import Derived.ChangeAlike
namespace Go.Proofs.YtlkbfehdiopkbaaGreatDoor
set_option linter.unusedVariables false
set_option linter.unusedSimpArgs false
open Go.RowKit

/-- of what was there only the blocks b and q have changed. -/
structure Two (b q : Nat) (w w' : World) : Prop where
  os : w'.os = w.os
  tape : w'.tape = w.tape
  output : w'.output = w.output
  size : w.heap.size ≤ w'.heap.size
  block : ∀ k, k < w.heap.size → k ≠ b → k ≠ q → w'.heap[k]? = w.heap[k]?
  row : b ≠ q → ∀ (xs : Array Value) (t : TypeId), w.heap[q]? = some (.cells xs t (0, 0)) → ∃ ys : Array Value, w'.heap[q]? = some (.cells ys t (0, 0)) ∧ ys.size = xs.size
theorem Two.refl (b q : Nat) (w : World) : Two b q w w := ⟨rfl, rfl, rfl, Nat.le_refl _, fun _ _ _ _ => rfl, fun _ xs _ h => ⟨xs, h, rfl⟩⟩
theorem Two.trans {b q : Nat} {w1 w2 w3 : World} (h : Two b q w1 w2) (k : Two b q w2 w3) : Two b q w1 w3 :=
  ⟨k.os.trans h.os, k.tape.trans h.tape, k.output.trans h.output, Nat.le_trans h.size k.size, fun i hi h1 h2 => (k.block i (Nat.lt_of_lt_of_le hi h.size) h1 h2).trans (h.block i hi h1 h2), fun hne xs t hx => by
    obtain ⟨ys, hy, e1⟩ := h.row hne xs t hx
    obtain ⟨zs, hz, e2⟩ := k.row hne ys t hy
    exact ⟨zs, hz, e2.trans e1⟩⟩
theorem Two.rd {b q : Nat} {w w' : World} (h : w.grownBy w' (some b)) : Two b q w w' := ⟨h.os, h.tape, h.output, h.size, fun k hk h1 _ => h.block k hk (by intro e; injection e with e; exact h1 e),
  fun hne xs _ hx => ⟨xs, (h.block q (Array.getElem?_eq_some_iff.1 hx).1 (by intro e; injection e with e; exact hne e.symm)).trans hx, rfl⟩⟩
theorem Two.below {b q : Nat} {w w' : World} (h : Below w.heap.size w w') : Two b q w w' := ⟨h.os, h.tape, h.output, h.size, fun k hk _ _ => h.block k hk, fun _ xs _ hx => ⟨xs, (h.block q (Array.getElem?_eq_some_iff.1 hx).1).trans hx, rfl⟩⟩
theorem Two.setq {b q : Nat} {w w' : World} (h : Two b q w w') (k : Nat) (v : Value) : Two b q w (w'.setCell ⟨q, k, none⟩ v) :=
  ⟨h.os, h.tape, h.output, by simpa using h.size, fun i hi h1 h2 => (Below.heap_setCell w' ⟨q, k, none⟩ v i h2).trans (h.block i hi h1 h2), fun hne xs t hx => by
    obtain ⟨ys, hy, e1⟩ := h.row hne xs t hx
    exact ⟨_, heap_setCell_same w' q k ys t v hy, by rw [Array.size_setIfInBounds]; exact e1⟩⟩
theorem Two.draws {b q : Nat} {w w' : World} (h : Two b q w w') (n : Nat) : Two b q w (w'.drewN n) := ⟨h.os, h.tape, h.output, h.size, h.block, h.row⟩
theorem WR.draws1 {w : World} {b : Nat} {buf s : List UInt8} (h : WR w b buf s) : WR w.drew b buf s := h.elim fun k h => ⟨k, h.le, h.left, h.cells⟩
/-- what is left to be read, as a number. -/
def wleft (buf : List UInt8) (w : World) (b : Nat) : Nat := buf.length - (intOf ((w.cell? ⟨b, 1, none⟩).getD undef)).toNat
theorem WR.left {w : World} {b : Nat} {buf s : List UInt8} (h : WR w b buf s) : wleft buf w b = s.length := by
  obtain ⟨k, h⟩ := h
  unfold wleft
  rw [h.c1]
  have := h.len
  simp only [Option.getD_some, intOf, Int.toNat_natCast]
  omega
theorem begin_step (s : List UInt8) : (∃ r, s = 13 :: 10 :: r ∧ lineS 414 400 s = .ok ([], r) ∧ beginS s = beginS r) ∨ (beginS s = lineS 414 400 s ∧ ∀ r, lineS 414 400 s ≠ .ok ([], r)) := by
  have hne : (¬ ∃ r, s = 13 :: 10 :: r) → ∀ r, lineS 414 400 s ≠ .ok ([], r) := fun h r hr => h ⟨r, (lineS_ok hr).1⟩
  rcases skip_cases s with ⟨r, rfl⟩ | rfl | rfl | hs
  · exact .inl ⟨r, rfl, lineS_mk (l := []) 414 400 r (by simp) (by simp) (by simp), begin_blank r⟩
  · exact .inr ⟨rfl, hne (by rintro ⟨r, h⟩; cases h)⟩
  · exact .inr ⟨rfl, hne (by rintro ⟨r, h⟩; simp at h)⟩
  · have h0 := hs []
    rw [List.append_nil] at h0
    refine .inr ⟨by unfold beginS; rw [h0], hne ?_⟩
    rintro ⟨r, rfl⟩
    rw [skip_blank] at h0
    have h1 := congrArg List.length h0
    have h2 : ∀ n (l : List UInt8), l.length ≤ n → (skipS l).length ≤ l.length := by
      intro n
      induction n with
      | zero => intro l hl; rw [List.eq_nil_of_length_eq_zero (by omega : l.length = 0)]; exact Nat.le_refl _
      | succ n ih =>
        intro l hl
        match l with
        | [] => exact Nat.le_refl _
        | [a] => exact Nat.le_refl _
        | a :: b :: q =>
          unfold skipS
          split
          · have := ih q (by simp at hl; omega)
            simp; omega
          · exact Nat.le_refl _
    have := h2 _ r (Nat.le_refl _)
    simp at h1
    omega
def beginR (s : List UInt8) : Rd1 (List UInt8 × List UInt8) := thenS (beginS s) fun l r => match reqLine l with
  | .error e => .error e
  | .ok mt => .ok (mt, r)
/-- what begin leaves. -/
def BeginP (rb qb : Nat) (buf : List UInt8) (x : Rd1 (List UInt8 × List UInt8)) (hv bv cv : Value) (w : World) (e : Ending) (w' : World) : Prop :=
  Two rb qb w w' ∧ match x with
    | .error st => e = .panicked (stopE st)
    | .ok ((m, t), r) => e = .returned (.tuple #[]) ∧ WR w' rb buf r ∧ w'.heap[qb]? = some (.cells #[.string ⟨m.toArray⟩, .string ⟨t.toArray⟩, hv, bv, cv] 26 (0, 0))
theorem beginP_no {rb qb : Nat} {buf : List UInt8} {x : Rd1 (List UInt8 × List UInt8)} {hv bv cv : Value} {w w' : World} {st : Int} (h : x = .error st) (ht : Two rb qb w w') : BeginP rb qb buf x hv bv cv w (.panicked (stopE st)) w' := by
  subst h
  exact ⟨ht, rfl⟩
theorem beginP_ok {rb qb : Nat} {buf : List UInt8} {x : Rd1 (List UInt8 × List UInt8)} {hv bv cv : Value} {w w' : World} {m t r : List UInt8} (h : x = .ok ((m, t), r)) (ht : Two rb qb w w') (hr : WR w' rb buf r) (hq : w'.heap[qb]? = some (.cells #[.string ⟨m.toArray⟩, .string ⟨t.toArray⟩, hv, bv, cv] 26 (0, 0))) :
    BeginP rb qb buf x hv bv cv w (.returned (.tuple #[])) w' := by
  subst h
  exact ⟨ht, rfl, hr, hq⟩
theorem reqLine_len {l : List UInt8} (h : (Lib.split l [32]).length ≠ 3) : reqLine l = .error 400 := by
  unfold reqLine
  split
  · rename_i heq
    rw [heq] at h
    exact absurd rfl h
  · rfl
theorem reqLine_3 {l m t v : List UInt8} (h : Lib.split l [32] = [m, t, v]) : reqLine l = if tokS m && !decide (t = []) && t.all targC && verOk v then (if v = vHttp ++ [49, 46, 49] then .ok (m, t) else .error 505) else .error 400 := by
  unfold reqLine
  rw [h]
def verT (u : List UInt8) : Bool := match u with | [a, b, c] => digC a && decide (b = 46) && digC c | _ => false
theorem verOk_eq (v : List UInt8) : verOk v = (vHttp.isPrefixOf v && verT (v.drop 5)) := rfl
theorem verT_len {u : List UInt8} (h : u.length ≠ 3) : verT u = false := by
  unfold verT
  split
  · exact absurd rfl h
  · rfl
theorem three {u : List UInt8} (h : u.length = 3) : ∃ a b c, u = [a, b, c] := by
  match u, h with
  | [a, b, c], _ => exact ⟨a, b, c, rfl⟩
theorem three' {α : Type} {u : List α} (h : u.length = 3) : ∃ a b c, u = [a, b, c] := by
  match u, h with
  | [a, b, c], _ => exact ⟨a, b, c, rfl⟩
theorem http_drop {v : List UInt8} (h : vHttp.isPrefixOf v = true) (x : List UInt8) : v = vHttp ++ x ↔ v.drop 5 = x := by
  rw [List.isPrefixOf_iff_prefix] at h
  obtain ⟨t, rfl⟩ := h
  constructor
  · intro e
    exact List.append_cancel_left e
  · intro e
    rw [← e]
    rfl
theorem trimHttp {v : List UInt8} (h : vHttp.isPrefixOf v = true) : Lib.trimPrefix v vHttp = v.drop 5 := by
  unfold Lib.trimPrefix Lib.hasPrefix
  rw [if_pos h]
  rfl
set_option maxHeartbeats 4000000 in
set_option maxRecDepth 100000 in
set_option linter.unusedSimpArgs false in
theorem begin_any (rb qb : Nat) (buf s : List UInt8) (mv tv hv bv cv : Value) (w : World) (h : WR w rb buf s) (hq : w.heap[qb]? = some (.cells #[mv, tv, hv, bv, cv] 26 (0, 0))) (hne : rb ≠ qb) (hb : buf.length ≤ 9223372036854775807) (hE : ∀ w', Two rb qb w w' → Env w') :
    Calls Tryz.prog 31 #[.pointer (some ⟨rb, 0, none⟩), .pointer (some ⟨qb, 0, none⟩)] w (BeginP rb qb buf (beginR s) hv bv cv w) := by
  have HW := Lib.hid h
  have HQ := Lib.hid hq
  have HE := Lib.hid hE
  have HLn := Lib.hid (fun w s (h : WR w rb buf s) => line_any rb buf s w h hb 414 400)
  have HF := Lib.hid fail_any
  have HBR := Lib.hid (show beginR s = _ from rfl)
  obtain ⟨ANS, hANS⟩ : ∃ A, beginR s = A := ⟨_, rfl⟩
  have HAN := Lib.hid hANS
  rw [hANS]
  have hql : qb < w.heap.size := (Array.getElem?_eq_some_iff.1 hq).1
  clear h hq hE hANS HBR
  go_enter Tryz.func31, Tryz.ntmps31
  go_wp2_with fail
  go_loopw [4] (fun lv wr => ∃ l s', lv = str l ∧ l.length ≤ 1024 ∧ WR wr rb buf s' ∧ w.grownBy wr (some rb) ∧ Hid ((l = [] ∧ beginS s' = beginS s) ∨ (l ≠ [] ∧ beginS s = .ok (l, s')))) (fun _ wr => wleft buf wr rb)
  case atStart => exact ⟨[], s, rfl, Nat.zero_le _, HW.out, grown_refl _ _, .inl ⟨rfl, rfl⟩⟩
  case round =>
    obtain ⟨l, s', rfl, hl1, hwr, hg, HC⟩ := hrel
    have HWr := Lib.hid hwr
    have hmeas := hwr.left
    have HM := Lib.hid hmeas
    clear HW hmeas hwr
    unfold str
    rcases HC.out with ⟨rfl, hbs⟩ | ⟨hln, hbs⟩
    · have HB := Lib.hid hbs
      clear hbs HC
      go_wp2_with fail
      refine (HLn.out wr s' HWr.out).mono ?_
      rintro e w1 ⟨hg1, hx⟩
      have hg2 := grown_tr hg hg1
      rcases hL : lineS 414 400 s' with st | ⟨l', r'⟩
      · rw [hL] at hx
        obtain rfl := hx
        have hbe : beginS s = .error st := by
          rw [← HB.out]
          rcases begin_step s' with ⟨r, _, h2, _⟩ | ⟨h1, _⟩
          · rw [hL] at h2; cases h2
          · rw [h1, hL]
        have hN : ANS = .error st := by rw [← HAN.out]; unfold beginR; rw [hbe]; rfl
        exact ⟨rfl, beginP_no hN (Two.rd hg2)⟩
      · rw [hL] at hx
        obtain ⟨rfl, hwr1⟩ := hx
        have hrel : (l' = [] ∧ beginS r' = beginS s) ∨ (l' ≠ [] ∧ beginS s = .ok (l', r')) := by
          rw [← HB.out]
          rcases begin_step s' with ⟨r, _, h2, h3⟩ | ⟨h1, h2⟩
          · rw [hL] at h2
            injection h2 with h2
            injection h2 with h4 h5
            subst h4 h5
            exact .inl ⟨rfl, h3.symm⟩
          · rw [h1, hL]
            exact .inr ⟨fun e => by subst e; exact h2 r' hL, rfl⟩
        have hl2 := (lineS_ok hL).2.2.2
        have hlen := congrArg List.length (lineS_ok hL).1
        have hlt : wleft buf w1 rb < wleft buf wr rb := by
          rw [hwr1.left, HM.out, hlen]
          simp
          omega
        have HR := Lib.hid hrel
        have HLt := Lib.hid hlt
        clear hrel hL hlen hlt
        unfold str
        go_wp2
        go_roundw
        case rel => exact ⟨l', r', rfl, hl2, hwr1, hg2, HR.out⟩
        case measure => exact HLt.out
    · have HN := Lib.hid (show ANS = (match reqLine l with
        | .error e => .error e
        | .ok mt => .ok (mt, s') : Rd1 (List UInt8 × List UInt8)) by rw [← HAN.out]; unfold beginR; rw [hbs]; rfl)
      have hem : l.isEmpty = false := by cases l with | nil => exact absurd rfl hln | cons => rfl
      have HSp := Lib.hid (ssplit_any l [32] wr (by omega) (by decide) (HE.out wr (Two.rd hg)))
      have HR3 := Lib.hid (fun h => @reqLine_len l h)
      have HR4 := Lib.hid (fun m t v h => @reqLine_3 l m t v h)
      have HTg := Lib.hid (fun s (hs : s.length ≤ 100000000) w => wall_targ s w hs)
      have HTk := Lib.hid (fun s (hs : s.length ≤ 100000000) w => wtoken_any s w (by omega))
      have HPl := Lib.hid (fun p (hp : p ∈ Lib.split l [32]) => split_mem 32 l p hp)
      clear HC hbs HAN HLn HM hln
      generalize Lib.split l [32] = ps at *
      go_wp2_with fail
      refine HSp.out.mono ?_
      rintro e w2 ⟨lb, rfl, hv2, hb2⟩
      have HW2 := Lib.hid (HWr.out.below hb2)
      have HT2 := Lib.hid (Two.trans (q := qb) (Two.rd hg) (Two.below hb2))
      obtain ⟨_, _, hva, -, hpm, hac⟩ := hv2
      clear HSp HWr
      by_cases h3 : ps.length = 3
      case neg =>
        have HN2 := Lib.hid (show ANS = .error 400 by rw [HN.out, HR3.out h3])
        have h3' : ((ps.length : Int) != 3) = true := bne_iff_ne.2 (by omega)
        clear hac hpm hva HN HR3 HR4
        go_wp2_with fail
        refine (HF.out _ _).mono ?_
        rintro e w3 ⟨rfl, rfl⟩
        exact ⟨rfl, beginP_no HN2.out HT2.out⟩
      case pos =>
        obtain ⟨m, t, v, rfl⟩ := three' h3
        injection hva with e1 e2 e3
        subst e1
        obtain ⟨_, _, he, hlb, c0⟩ := hac 0 m rfl
        injection he with he
        injection he with e4 e5 _
        subst e4 e5
        obtain ⟨_, _, he, _, c1⟩ := hac 1 t rfl
        injection he with he
        injection he with e4 e5 _
        subst e4 e5
        obtain ⟨_, _, he, _, c2⟩ := hac 2 v rfl
        injection he with he
        injection he with e4 e5 _
        subst e4 e5
        have HN2 := Lib.hid (HR4.out m t v rfl)
        have hml := HPl.out m (by simp)
        have htl := HPl.out t (by simp)
        have hvl := HPl.out v (by simp)
        have HTm := Lib.hid (HTk.out m (by omega))
        have HTt := Lib.hid (HTg.out t (by omega))
        have HCp := Lib.hid (fun w => scutPrefix_any v vHttp w)
        simp only [List.length_cons, List.length_nil, Nat.zero_add] at *
        clear hac hpm HR3 HR4 HPl HTk HTg h3
        have HE0 := Lib.hid (fun (h : (tokS m && !decide (t = []) && t.all targC) = false) => (show ANS = .error 400 by
          rw [HN.out, HN2.out, h, Bool.false_and]
          rfl))
        have HE1 := Lib.hid (fun (h : (tokS m && !decide (t = []) && t.all targC) = true) => (show ANS = if verOk v then (if v = vHttp ++ [49, 46, 49] then .ok ((m, t), s') else .error 505) else .error 400 by
          rw [HN.out, HN2.out, h, Bool.true_and]
          cases verOk v
          · rfl
          · by_cases hv : v = vHttp ++ [49, 46, 49]
            · rw [if_pos rfl, if_pos rfl, if_pos hv, if_pos hv]
            · rw [if_pos rfl, if_pos rfl, if_neg hv, if_neg hv]))
        clear HN HN2
        cases hg1 : tokS m
        · have HX := Lib.hid (HE0.out (by rw [hg1]; rfl))
          rw [hg1] at HTm
          clear HE0 HE1 hg1 HTt HCp
          go_wp2_with (first | (go_at_call 51; refine (HTm.out _).mono ?_; rintro e w3 ⟨rfl, rfl⟩) | (go_at_call 54; refine (HF.out _ _).mono ?_; rintro e w3 ⟨rfl, rfl⟩))
          exact ⟨rfl, beginP_no HX.out HT2.out⟩
        rw [hg1] at HTm
        rcases t with _ | ⟨t0, t1⟩
        · have HX := Lib.hid (HE0.out (by simp))
          clear HE0 HE1 hg1 HTt HCp
          go_wp2_with (first | (go_at_call 51; refine (HTm.out _).mono ?_; rintro e w3 ⟨rfl, rfl⟩) | (go_at_call 54; refine (HF.out _ _).mono ?_; rintro e w3 ⟨rfl, rfl⟩))
          exact ⟨rfl, beginP_no HX.out HT2.out⟩
        have hte : (t0 :: t1).isEmpty = false := rfl
        have htd : decide (t0 :: t1 = []) = false := by simp
        generalize t0 :: t1 = t at *
        cases ha1 : t.all targC
        · have HX := Lib.hid (HE0.out (by rw [ha1, Bool.and_false]))
          rw [ha1] at HTt
          clear HE0 HE1 hg1 HCp htd ha1
          go_wp2_with (first | (go_at_call 51; refine (HTm.out _).mono ?_; rintro e w3 ⟨rfl, rfl⟩) | (go_at_call 52; refine (HTt.out _).mono ?_; rintro e w3 ⟨rfl, rfl⟩) | (go_at_call 54; refine (HF.out _ _).mono ?_; rintro e w3 ⟨rfl, rfl⟩))
          exact ⟨rfl, beginP_no HX.out HT2.out⟩
        rw [ha1] at HTt
        have HX := Lib.hid (HE1.out (by rw [hg1, htd, ha1]; rfl))
        rw [verOk_eq] at HX
        clear HE0 HE1 hg1 htd ha1
        unfold vHttp at HCp
        rw [show ([72, 84, 84, 80, 47] : List UInt8) = vHttp from rfl] at HCp
        go_wp2_with (first | (go_at_call 51; refine (HTm.out _).mono ?_; rintro e w3 ⟨rfl, rfl⟩) | (go_at_call 52; refine (HTt.out _).mono ?_; rintro e w3 ⟨rfl, rfl⟩))
        refine (HCp.out _).mono ?_
        rintro e w3 ⟨rfl, rfl⟩
        clear HCp HTm HTt
        cases hp : vHttp.isPrefixOf v
        · have HX2 := Lib.hid (show ANS = .error 400 by rw [HX.out, hp]; rfl)
          generalize Lib.trimPrefix v vHttp = u at *
          clear HX hp
          go_wp2_with (go_at_call 54; refine (HF.out _ _).mono ?_; rintro e w3 ⟨rfl, rfl⟩)
          exact ⟨rfl, beginP_no HX2.out HT2.out⟩
        rw [trimHttp hp]
        have hpv := fun x => http_drop hp x
        rw [hp, Bool.true_and] at HX
        simp only [hpv] at HX
        have hul : (v.drop 5).length ≤ v.length := by simp
        generalize v.drop 5 = u at *
        clear hp hpv
        by_cases hu : u.length = 3
        case neg =>
          have HX2 := Lib.hid (show ANS = .error 400 by rw [HX.out, verT_len hu]; rfl)
          have hu' : ((u.length : Int) != 3) = true := bne_iff_ne.2 (by omega)
          clear HX
          go_wp2_with (go_at_call 54; refine (HF.out _ _).mono ?_; rintro e w3 ⟨rfl, rfl⟩)
          exact ⟨rfl, beginP_no HX2.out HT2.out⟩
        obtain ⟨a, b, c, rfl⟩ := three hu
        have HDa := Lib.hid (fun w => digit_any a w)
        have HDc := Lib.hid (fun w => digit_any c w)
        have HX' := Lib.hid (show ANS = if (digC a && decide (b = 46) && digC c) = true then (if [a, b, c] = [49, 46, 49] then .ok ((m, t), s') else .error 505) else .error 400 from HX.out)
        clear HX hu hul
        have hi0 : ∀ hk, (⟨#[a, b, c]⟩ : ByteArray)[0]'hk = a := fun _ => rfl
        have hi1 : ∀ hk, (⟨#[a, b, c]⟩ : ByteArray)[1]'hk = b := fun _ => rfl
        have hi2 : ∀ hk, (⟨#[a, b, c]⟩ : ByteArray)[2]'hk = c := fun _ => rfl
        cases hda : digC a
        · have HX2 := Lib.hid (show ANS = .error 400 by rw [HX'.out, hda]; rfl)
          rw [hda] at HDa
          clear HX' hda
          go_wp2_with (first | (go_at_call 55; first | (refine (HDa.out _).mono ?_; rintro e w3 ⟨rfl, rfl⟩) | (refine (HDc.out _).mono ?_; rintro e w3 ⟨rfl, rfl⟩)) | (go_at_call 54; refine (HF.out _ _).mono ?_; rintro e w3 ⟨rfl, rfl⟩))
          exact ⟨rfl, beginP_no HX2.out HT2.out⟩
        rw [hda] at HDa
        by_cases hb46 : b = 46
        case neg =>
          have HX2 := Lib.hid (show ANS = .error 400 by rw [HX'.out, decide_eq_false hb46, Bool.and_false]; rfl)
          have hbn : ((b.toNat : Int) != 46) = true := bne_iff_ne.2 (fun e => hb46 (UInt8.toNat_inj.1 (show b.toNat = (46 : UInt8).toNat by rw [show (46 : UInt8).toNat = 46 from rfl]; omega)))
          clear HX' hda hb46
          go_wp2_with (first | (go_at_call 55; first | (refine (HDa.out _).mono ?_; rintro e w3 ⟨rfl, rfl⟩) | (refine (HDc.out _).mono ?_; rintro e w3 ⟨rfl, rfl⟩)) | (go_at_call 54; refine (HF.out _ _).mono ?_; rintro e w3 ⟨rfl, rfl⟩))
          exact ⟨rfl, beginP_no HX2.out HT2.out⟩
        subst hb46
        cases hdc : digC c
        · have HX2 := Lib.hid (show ANS = .error 400 by rw [HX'.out, hdc, Bool.and_false]; rfl)
          rw [hdc] at HDc
          clear HX' hda hdc
          go_wp2_with (first | (go_at_call 55; first | (refine (HDa.out _).mono ?_; rintro e w3 ⟨rfl, rfl⟩) | (refine (HDc.out _).mono ?_; rintro e w3 ⟨rfl, rfl⟩)) | (go_at_call 54; refine (HF.out _ _).mono ?_; rintro e w3 ⟨rfl, rfl⟩))
          exact ⟨rfl, beginP_no HX2.out HT2.out⟩
        rw [hdc] at HDc
        have HX3 := Lib.hid (show ANS = if [a, 46, c] = [49, 46, 49] then .ok ((m, t), s') else .error 505 by rw [HX'.out, hda, hdc]; rfl)
        clear HX' hda hdc
        by_cases hv : [a, 46, c] = [49, 46, 49]
        case neg =>
          have HX2 := Lib.hid (HX3.out.trans (if_neg hv))
          have hvb : ([a, 46, c] == [49, 46, 49]) = false := beq_eq_false_iff_ne.2 hv
          clear HX3 hv
          go_wp2_with (first | (go_at_call 55; first | (refine (HDa.out _).mono ?_; rintro e w3 ⟨rfl, rfl⟩) | (refine (HDc.out _).mono ?_; rintro e w3 ⟨rfl, rfl⟩)) | (go_at_call 54; refine (HF.out _ _).mono ?_; rintro e w3 ⟨rfl, rfl⟩))
          exact ⟨rfl, beginP_no HX2.out HT2.out⟩
        have HX2 := Lib.hid (HX3.out.trans (if_pos hv))
        injection hv with e1 hv
        injection hv with _ hv
        injection hv with e3 _
        subst e1 e3
        clear HX3
        go_wp2_with (first | (go_at_call 55; first | (refine (HDa.out _).mono ?_; rintro e w3 ⟨rfl, rfl⟩) | (refine (HDc.out _).mono ?_; rintro e w3 ⟨rfl, rfl⟩)) | (go_at_call 54; refine (HF.out _ _).mono ?_; rintro e w3 ⟨rfl, rfl⟩))
        have hq2 : w2.heap[qb]? = some (.cells #[mv, tv, hv, bv, cv] 26 (0, 0)) := (hb2.block qb (Nat.lt_of_lt_of_le hql hg.size)).trans ((hg.block qb hql (fun e => by injection e with e; exact hne e.symm)).trans HQ.out)
        have q0 := wat hq2 0
        have q1 := wat hq2 1
        have f0 := wfree hq2 0
        have f1 := wfree hq2 1
        replace q0 : w2.cell? ⟨qb, 0, none⟩ = some mv := q0
        replace q1 : w2.cell? ⟨qb, 1, none⟩ = some tv := q1
        have HQ2 := Lib.hid hq2
        clear hq2 HDa HDc hi0 hi1 hi2
        go_region
        all_goals
          go_end0
          refine beginP_ok HX2.out ((Two.setq (Two.setq HT2.out 0 (.string ⟨m.toArray⟩)) 1 (.string ⟨t.toArray⟩)).draws 1) ?_ (heap_setCell_same _ qb 1 _ _ _ (heap_setCell_same w2 qb 0 _ _ _ HQ2.out))
          exact WR.draws1 ((HW2.out.keep (grown_cell w2 qb 0 (.string ⟨m.toArray⟩)) (fun e => by injection e with e; exact hne e)).keep (grown_cell _ qb 1 (.string ⟨t.toArray⟩)) (fun e => by injection e with e; exact hne e))
end Go.Proofs.YtlkbfehdiopkbaaGreatDoor

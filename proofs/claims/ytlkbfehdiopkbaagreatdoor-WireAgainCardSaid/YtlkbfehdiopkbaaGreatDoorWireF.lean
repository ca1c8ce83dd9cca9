/-
  The walk of wire's headers. Conditions: the reader and the request lie in blocks of their own; the bytes are fewer than a hundred million; what the listed variables hold.
-/
import Derived.Test.YtlkbfehdiopkbaaGreatDoorWireE
import Derived.Deep.RegionLaw
namespace Go.Proofs.YtlkbfehdiopkbaaGreatDoor
set_option linter.unusedVariables false
set_option linter.unusedSimpArgs false
open Go.RowKit

section
variable {P : Program} {t e : TypeId} {z : Value} {n bytes : Nat}
/-- append onto a row of the call's own, inside a region that draws its order. -/
theorem step_appT (E : ElemN P t e n z bytes) {ops : Array Oper} {o : Oper} {a : Act} {K : Act → World → Prop} {Q : Exit → Act → World → Prop} {X : Prop} {w : World} (hgd : o.guard = none) (s x : Operand)
    (ho : o.op = .call { callee := .builtin .append, args := #[s, x], argTypes := #[t, t] })
    (B : Nat) (rows news : List (List Value)) (v : Value) (hs : a.eval s = v) (hown : OwnT e n B rows v w) (A : Option Addr) (m cap : Nat) (hx : a.eval x = .slice A m cap) (hm : news.length = m) (hmc : m ≤ cap) (hnl : ∀ r ∈ news, r.length = n)
    (hcell : news ≠ [] → ∃ b o, A = some ⟨b, o, none⟩ ∧ ∀ (j : Nat) (r : List Value), news[j]? = some r → ∀ k u, r[k]? = some u → w.cell? ⟨b, o + (j * n + k), none⟩ = some u)
    (h1 : ∀ r ∈ news, ∀ u ∈ r, u.oneCell' = true) (hlen : (rows.length + m) * bytes ≤ 140737488355328) (hB : B ≤ w.heap.size)
    (h : ∀ v' w', OwnT e n B (rows ++ news) v' w' → Below B w w' → w.grownBy w' v.ownBlock → (v'.ownBlock = v.ownBlock ∨ v'.ownBlock = some w.heap.size) → K (a.put o.dst v') w') :
    if Region.wanted o (yielded ops a.tmps) = true then Oper.wp P o a w K Q else X := by
  have hw : Region.wanted o (yielded ops a.tmps) = true := by simp [Region.wanted, hgd]
  rw [if_pos hw]
  obtain ⟨v', w', hrun, h2, h3, h4, h5⟩ := run_appT E o.type hown A m cap hm hmc hnl hcell h1 hlen hB
  unfold Oper.wp execOp
  simp only [ho, resolve, invoke, builtin, Sem.run_bind, Sem.run_pure, Result.andThen_ok, List.map_toArray, List.map_cons, List.map_nil, hs, hx, hrun]
  exact h v' w' h2 h3 h4 h5
end
theorem news2 {w' : World} {x y : Value} {t : TypeId} {b : Nat} (h : w'.heap[b]? = some (.cells #[x, y] t (0, 0))) : [[x, y]] ≠ [] → ∃ b' o, some (⟨b, 0, none⟩ : Addr) = some ⟨b', o, none⟩ ∧ ∀ (j : Nat) (r : List Value), [[x, y]][j]? = some r → ∀ k u, r[k]? = some u → w'.cell? ⟨b', o + (j * 2 + k), none⟩ = some u :=
  fun _ => ⟨b, 0, rfl, fun j r hr k u hu => by
    cases j with
    | succ j => simp at hr
    | zero =>
      simp at hr
      subst hr
      rw [cell_of_row _ b _ _ _ _ h, Nat.zero_mul, Nat.zero_add, Nat.zero_add]
      simpa using hu⟩
theorem WR.low {w w' : World} {b B : Nat} {buf s : List UInt8} (h : WR w b buf s) (hb : Below B w w') (hB : b < B) : WR w' b buf s := by
  obtain ⟨k, h⟩ := h
  exact ⟨k, h.le, h.left, (hb.block b hB).trans h.cells⟩
theorem Two.low {b q : Nat} {w w1 w2 : World} (h : Two b q w w1) (hb : Below w.heap.size w1 w2) : Two b q w w2 :=
  ⟨hb.os.trans h.os, hb.tape.trans h.tape, hb.output.trans h.output, Nat.le_trans h.size hb.size, fun k hk h1 h2 => (hb.block k hk).trans (h.block k hk h1 h2), fun hne xs t hx => by
    obtain ⟨ys, hy, e⟩ := h.row hne xs t hx
    exact ⟨ys, (hb.block q (Array.getElem?_eq_some_iff.1 hx).1).trans hy, e⟩⟩
theorem wundrew {B : Nat} {a b : World} (h : Below B a.drew b) : Below B a b := ⟨h.os, h.tape, h.output, h.size, h.block⟩
/-- what headers leaves. -/
def HeadP (rb qb : Nat) (buf : List UInt8) (x : Rd1 (List HdrT)) (mv tv bv cv : Value) (w : World) (e : Ending) (w' : World) : Prop :=
  Two rb qb w w' ∧ match x with
    | .error st => e = .panicked (stopE st)
    | .ok (hs, r) => e = .returned (.tuple #[]) ∧ WR w' rb buf r ∧ ∃ hv, w'.heap[qb]? = some (.cells #[mv, tv, hv, bv, cv] 26 (0, 0)) ∧ OwnT 38 2 w.heap.size (hs.map hcells) hv w'
theorem headP_no {rb qb : Nat} {buf : List UInt8} {x : Rd1 (List HdrT)} {mv tv bv cv : Value} {w w' : World} {st : Int} (h : x = .error st) (ht : Two rb qb w w') : HeadP rb qb buf x mv tv bv cv w (.panicked (stopE st)) w' := by
  subst h
  exact ⟨ht, rfl⟩
theorem headP_ok {rb qb : Nat} {buf : List UInt8} {x : Rd1 (List HdrT)} {mv tv hv bv cv : Value} {w w' : World} {hs : List HdrT} {r : List UInt8} (h : x = .ok (hs, r)) (ht : Two rb qb w w') (hr : WR w' rb buf r) (hq : w'.heap[qb]? = some (.cells #[mv, tv, hv, bv, cv] 26 (0, 0)))
    (ho : OwnT 38 2 w.heap.size (hs.map hcells) hv w') : HeadP rb qb buf x mv tv bv cv w (.returned (.tuple #[])) w' := by
  subst h
  exact ⟨ht, rfl, hr, hv, hq, ho⟩
theorem headS_err {f sz : Nat} {hs : List HdrT} {s : List UInt8} {st : Int} (h : lineS 431 400 s = .error st) : headS f sz hs s = .error st := by
  cases f <;> (rw [headS, h]; rfl)
theorem headS_nil {f sz : Nat} {hs : List HdrT} {s r : List UInt8} (h : lineS 431 400 s = .ok ([], r)) : headS f sz hs s = .ok (hs, r) := by
  cases f <;> (rw [headS, h]; rfl)
theorem headS_big {f sz : Nat} {hs : List HdrT} {s l r : List UInt8} (h : lineS 431 400 s = .ok (l, r)) (hl : l ≠ []) (hz : f = 0 ∨ 4096 < sz + l.length + 2) : headS f sz hs s = .error 431 := by
  have := (lineS_ok h).1
  obtain ⟨h1, h2, h3⟩ := (lineS_ok h).2
  rw [this]
  exact headS_over ⟨h1, h2, h3⟩ hl f sz hs r hz
theorem headS_bad {f sz : Nat} {hs : List HdrT} {s l r : List UInt8} (h : lineS 431 400 s = .ok (l, r)) (hl : l ≠ []) (hz : ¬ 4096 < sz + l.length + 2) (hh : hdrOf l = none) : headS (f + 1) sz hs s = .error 400 := by
  rw [headS, h]
  show (if l = [] then _ else if 4096 < sz + l.length + 2 then _ else (match hdrOf l with
      | none => .error 400
      | some h => headS f (sz + l.length + 2) (hs ++ [h]) r : Rd1 (List HdrT))) = _
  rw [if_neg hl, if_neg hz, hh]
theorem headS_go {f sz : Nat} {hs : List HdrT} {s l r : List UInt8} {x : HdrT} (h : lineS 431 400 s = .ok (l, r)) (hl : l ≠ []) (hz : ¬ 4096 < sz + l.length + 2) (hh : hdrOf l = some x) : headS (f + 1) sz hs s = headS f (sz + l.length + 2) (hs ++ [x]) r := by
  rw [headS, h]
  show (if l = [] then _ else if 4096 < sz + l.length + 2 then _ else (match hdrOf l with
      | none => .error 400
      | some h => headS f (sz + l.length + 2) (hs ++ [h]) r : Rd1 (List HdrT))) = _
  rw [if_neg hl, if_neg hz, hh]
set_option maxHeartbeats 4000000 in
set_option maxRecDepth 100000 in
set_option linter.unusedSimpArgs false in
theorem headers_any (rb qb : Nat) (buf s : List UInt8) (mv tv bv cv : Value) (w : World) (h : WR w rb buf s) (hq : w.heap[qb]? = some (.cells #[mv, tv, .slice none 0 0, bv, cv] 26 (0, 0))) (hne : rb ≠ qb) (hb : buf.length ≤ 9223372036854775807) (hE : ∀ w', Two rb qb w w' → Env w') :
    Calls Tryz.prog 32 #[.pointer (some ⟨rb, 0, none⟩), .pointer (some ⟨qb, 0, none⟩)] w (HeadP rb qb buf (headS 32 0 [] s) mv tv bv cv w) := by
  have HW := Lib.hid h
  have HQ := Lib.hid hq
  have HE := Lib.hid hE
  have HLn := Lib.hid (fun w s (h : WR w rb buf s) => line_any rb buf s w h hb 431 400)
  have HF := Lib.hid fail_any
  obtain ⟨ANS, hANS⟩ : ∃ A, headS 32 0 [] s = A := ⟨_, rfl⟩
  have HAN := Lib.hid hANS
  rw [hANS]
  have hql : qb < w.heap.size := (Array.getElem?_eq_some_iff.1 hq).1
  have hrl : rb < w.heap.size := h.lt
  clear h hq hE hANS
  go_enter Tryz.func32, Tryz.ntmps32
  go_wp2_with fail
  go_loopw [4] (fun zv wr => ∃ (f sz : Nat) (hs : List HdrT) (s' : List UInt8) (hv : Value), zv = .int .i64 sz ∧ WR wr rb buf s' ∧ wr.heap[qb]? = some (.cells #[mv, tv, hv, bv, cv] 26 (0, 0)) ∧ OwnT 38 2 w.heap.size (hs.map hcells) hv wr ∧ Two rb qb w wr ∧ hs.length + f = 32 ∧ sz ≤ 4096 ∧ Hid (headS f sz hs s' = ANS)) (fun _ wr => wleft buf wr rb)
  case atStart => exact ⟨32, 0, [], s, _, rfl, HW.out, HQ.out, OwnT.nil _ _ _ _, Two.refl _ _ _, rfl, by omega, HAN.out⟩
  case round =>
    obtain ⟨f, sz, hs, s', hv, rfl, hwr, hq, ho, htw, hfl, hsz, HK⟩ := hrel
    have HWr := Lib.hid hwr
    have HM := Lib.hid hwr.left
    have HQr := Lib.hid hq
    have HO := Lib.hid ho
    obtain ⟨A8, c8, hv8⟩ := ownT_shape ho
    rw [List.length_map] at hv8
    subst hv8
    clear HW HQ HAN hwr hq ho
    go_wp2_with fail
    refine (HLn.out wr s' HWr.out).mono ?_
    rintro e w1 ⟨hg1, hx⟩
    have htw1 := htw.trans (Two.rd (q := qb) hg1)
    rcases hL : lineS 431 400 s' with st | ⟨l, r⟩
    · rw [hL] at hx
      obtain rfl := hx
      exact ⟨rfl, headP_no (by rw [← HK.out, headS_err hL]) htw1⟩
    rw [hL] at hx
    obtain ⟨rfl, hwr1⟩ := hx
    have hqr : qb < wr.heap.size := (Array.getElem?_eq_some_iff.1 HQr.out).1
    have HQ1 := Lib.hid ((hg1.block qb hqr (fun e => by injection e with e; exact hne e.symm)).trans HQr.out)
    have HO1 := Lib.hid (HO.out.grown hg1 (fun b hb => by have := (HO.out.lt b hb).1; intro e; injection e with e; omega))
    have HR1 := Lib.hid hwr1
    have hll := (lineS_ok hL).2.2.2
    have hlen := congrArg List.length (lineS_ok hL).1
    have HLt := Lib.hid (show r.length + l.length + 2 = s'.length by rw [hlen]; simp; omega)
    have HTw := Lib.hid htw1
    have HL := Lib.hid hL
    have c2 := wat HQ1.out 2
    replace c2 : w1.cell? ⟨qb, 2, none⟩ = some (.slice A8 hs.length c8) := c2
    clear hL hwr1 hlen htw htw1 hg1 HWr HQr HO hqr
    unfold str
    rcases l with _ | ⟨l0, l1⟩
    · have HX := Lib.hid (show ANS = .ok (hs, r) by rw [← HK.out, headS_nil HL.out])
      clear HK HL
      go_wp2
      go_end0
      exact headP_ok HX.out HTw.out HR1.out HQ1.out HO1.out
    have hem : (l0 :: l1).isEmpty = false := rfl
    have hln : l0 :: l1 ≠ [] := by simp
    generalize l0 :: l1 = l at *
    have HNe := Lib.hid hln
    clear hln
    by_cases hbig : f = 0 ∨ 4096 < sz + l.length + 2
    · have HX := Lib.hid (show ANS = .error 431 by rw [← HK.out, headS_big HL.out HNe.out hbig])
      clear HK HL
      by_cases hz : (4096 : Int) < (sz : Int) + ((l.length : Int) + 2)
      · clear hbig
        go_wp2_with (go_at_call 54; refine (HF.out _ _).mono ?_; rintro e w3 ⟨rfl, rfl⟩)
        exact ⟨rfl, headP_no HX.out HTw.out⟩
      · have h32 : ((hs.length : Int) == 32) = true := by
          have : f = 0 := by omega
          simp; omega
        clear hbig
        go_wp2_with (go_at_call 54; refine (HF.out _ _).mono ?_; rintro e w3 ⟨rfl, rfl⟩)
        exact ⟨rfl, headP_no HX.out HTw.out⟩
    · have hz : decide ((4096 : Int) < (sz : Int) + ((l.length : Int) + 2)) = false := decide_eq_false (by omega)
      have hzN : ¬ 4096 < sz + l.length + 2 := by omega
      have h32 : ((hs.length : Int) == 32) = false := beq_eq_false_iff_ne.2 (by omega)
      obtain ⟨f, rfl⟩ : ∃ m, f = m + 1 := ⟨f - 1, by omega⟩
      have HZ := Lib.hid hzN
      clear hbig hzN
      have HCt := Lib.hid (scut_any l [58] w1 (by omega) (HE.out w1 HTw.out))
      go_wp2_with fail
      refine HCt.out.mono ?_
      rintro e w2 ⟨rfl, hb2⟩
      have hzu : sz + l.length + 2 ≤ 4096 := by have := HZ.out; omega
      have htw2 := HTw.out.trans (Two.below (b := rb) (q := qb) hb2)
      have HT2 := Lib.hid htw2
      have HR2 := Lib.hid (HR1.out.below hb2)
      have hq1l : qb < w1.heap.size := (Array.getElem?_eq_some_iff.1 HQ1.out).1
      have HQ2 := Lib.hid ((hb2.block qb hq1l).trans HQ1.out)
      have HO2 := Lib.hid (HO1.out.below hb2)
      clear HCt hb2 htw2 HTw HR1 HQ1 HO1 c2 hq1l
      rcases hc : cutS [58] l with _ | ⟨n, v⟩
      · have HX := Lib.hid (show ANS = .error 400 by rw [← HK.out, headS_bad HL.out HNe.out HZ.out (by unfold hdrOf; rw [hc])])
        unfold cutT
        simp only
        clear HK HL hc
        go_wp2_with (go_at_call 54; refine (HF.out _ _).mono ?_; rintro e w3 ⟨rfl, rfl⟩)
        exact ⟨rfl, headP_no HX.out HT2.out⟩
      have hlv := congrArg List.length (cut1_some hc).1
      rw [List.length_append, List.length_cons] at hlv
      have hnl : n.length ≤ l.length := by omega
      have hvl : v.length ≤ l.length := by omega
      clear hlv
      have HOf := Lib.hid (show hdrOf l = if tokS n && v.all (fun c => valC c.toNat) then some ⟨lowS n, trimW v⟩ else none by unfold hdrOf; rw [hc])
      have HTk := Lib.hid (fun w => wtoken_any n w (by omega))
      have HAl := Lib.hid (fun w => wall_val v w (by omega))
      clear hc
      unfold cutT
      simp only
      cases ht : tokS n
      · have HX := Lib.hid (show ANS = .error 400 by rw [← HK.out, headS_bad HL.out HNe.out HZ.out (by rw [HOf.out, ht]; rfl)])
        rw [ht] at HTk
        clear HK HL HOf ht HAl
        go_wp2_with (first | (go_at_call 51; refine (HTk.out _).mono ?_; rintro e w3 ⟨rfl, rfl⟩) | (go_at_call 54; refine (HF.out _ _).mono ?_; rintro e w3 ⟨rfl, rfl⟩))
        exact ⟨rfl, headP_no HX.out HT2.out⟩
      rw [ht] at HTk HOf
      cases ha : v.all (fun c => valC c.toNat)
      · have HX := Lib.hid (show ANS = .error 400 by rw [← HK.out, headS_bad HL.out HNe.out HZ.out (by rw [HOf.out, ha]; rfl)])
        rw [ha] at HAl
        clear HK HL HOf ht ha
        go_wp2_with (first | (go_at_call 51; refine (HTk.out _).mono ?_; rintro e w3 ⟨rfl, rfl⟩) | (go_at_call 52; refine (HAl.out _).mono ?_; rintro e w3 ⟨rfl, rfl⟩) | (go_at_call 54; refine (HF.out _ _).mono ?_; rintro e w3 ⟨rfl, rfl⟩))
        exact ⟨rfl, headP_no HX.out HT2.out⟩
      rw [ha] at HAl HOf
      have HX := Lib.hid (show headS f (sz + l.length + 2) (hs ++ [⟨lowS n, trimW v⟩]) r = ANS by rw [← HK.out, headS_go HL.out HNe.out HZ.out HOf.out])
      have hle := lower_tok ht
      have HLo := Lib.hid (fun w hE => toLower_any n w (by omega) hE)
      rw [hle] at HLo
      have HTr := Lib.hid (fun w => trim_any v w (by unfold maxLen; omega))
      have c2 := wat HQ2.out 2
      have f2 := wfree HQ2.out 2
      replace c2 : w2.cell? ⟨qb, 2, none⟩ = some (.slice A8 hs.length c8) := c2
      clear HK HL HOf ht ha hle
      go_wp2_with (first | (go_at_call 51; refine (HTk.out _).mono ?_; rintro e w3 ⟨rfl, rfl⟩) | (go_at_call 52; refine (HAl.out _).mono ?_; rintro e w3 ⟨rfl, rfl⟩))
      have hqb2 : qb < w2.heap.size := (Array.getElem?_eq_some_iff.1 HQ2.out).1
      have HLoD := Lib.hid (HLo.out w2.drew (HE.out w2.drew (HT2.out.draws 1)))
      have HC5 := Lib.hid (fun (w5 : World) (h : Below w2.drew.heap.size w2.drew w5) => (show w5.cell? ⟨qb, 2, none⟩ = some (.slice A8 hs.length c8) ∧ qb < w5.heap.size from ⟨(h.cell (p := ⟨qb, 2, none⟩) hqb2).trans c2, Nat.lt_of_lt_of_le hqb2 h.size⟩))
      have HF5 := Lib.hid (fun (w5 : World) (h : Below w2.drew.heap.size w2.drew w5) => (h.frozen (p := ⟨qb, 2, none⟩) hqb2).trans f2)
      have HO5 := Lib.hid (fun (w5 : World) (h : Below w2.drew.heap.size w2.drew w5) => (show OwnT 38 2 w.heap.size (hs.map hcells) (.slice A8 hs.length c8) w2.drew from HO2.out).below h)
      have HB5 := Lib.hid (fun (w5 : World) (h : Below w2.drew.heap.size w2.drew w5) => (show w.heap.size ≤ w5.heap.size from Nat.le_trans HT2.out.size h.size))
      have HBt := Lib.hid (fun (w5 w6 : World) (h : Below w2.drew.heap.size w2.drew w5) (k : Below w5.heap.size w5 w6) => h.trans (k.mono h.size))
      have HBD := Lib.hid (show ((hs.map hcells).length + 1) * 32 ≤ 140737488355328 by rw [List.length_map]; omega)
      have Hone := Lib.hid (hcells_one ⟨lowS n, trimW v⟩)
      have HCN := Lib.hid (fun (w6 : World) (h : Below w2.drew.heap.size w2.drew w6) (o : Obj) (w' : World) (hb : Below w.heap.size (w6.alloc o) w') => (show w'.cell? ⟨qb, 2, none⟩ = some (.slice A8 hs.length c8) ∧ w'.frozen? ⟨qb, 2, none⟩ = false from
        ⟨(hb.cell (p := ⟨qb, 2, none⟩) hql).trans (cell_alloc (HC5.out _ h).1 o), (hb.frozen (p := ⟨qb, 2, none⟩) hql).trans ((((Below.refl w6.heap.size w6).alloc (Nat.le_refl _) o).frozen (p := ⟨qb, 2, none⟩) (HC5.out _ h).2).trans (HF5.out _ h))⟩))
      generalize lowS n = ln at *
      generalize trimW v = tv' at *
      go_region_law (first
        | (go_simp; go_at_call 57; refine (HLoD.out).mono ?_; rintro e w5 ⟨rfl, hb5⟩; have c5 := (HC5.out _ hb5).1)
        | (go_simp; go_at_call 58; refine (HTr.out _).mono ?_; rintro e w6 ⟨rfl, hb6⟩; have c6 := (HC5.out _ (HBt.out _ _ hb5 hb6)).1; have c6a := fun o => cell_alloc c6 o)
        | (refine step_appT elemH rfl (.tmp 52) (.tmp 58) rfl w.heap.size (hs.map hcells) [[.string ⟨ln.toArray⟩, .string ⟨tv'.toArray⟩]] (.slice A8 hs.length c8) (by rfl) ((HO5.out _ (HBt.out _ _ hb5 hb6)).alloc _) (some ⟨w6.heap.size, 0, none⟩) 1 1 (by rfl) rfl (Nat.le_refl _) (fun r hr => by rw [List.mem_singleton.1 hr]; rfl) (news2 (heap_alloc_new w6 _)) (fun r hr u hu => Hone.out u (by rw [List.mem_singleton.1 hr] at hu; exact hu)) HBD.out (Nat.le_trans (HB5.out _ (HBt.out _ _ hb5 hb6)) (by simp)) ?_; intro v' w' hown' hb' hg' hblk'; obtain ⟨A9, c9, hv9⟩ := ownT_shape hown'; rw [List.length_append, List.length_map] at hv9; subst hv9; obtain ⟨hc', hf'⟩ := HCN.out _ (HBt.out _ _ hb5 hb6) _ _ hb'))
      all_goals
        have hBT := wundrew (HBt.out _ _ hb5 hb6)
        have hBA : Below w2.heap.size w2 (w6.alloc (.cells #[.string ⟨ln.toArray⟩, .string ⟨tv'.toArray⟩] 38)) := hBT.alloc hBT.size _
        have hwr' : WR (w'.setCell ⟨qb, 2, none⟩ (.slice A9 (hs.length + 1) c9)) rb buf r := ((HR2.out.below hBA).low hb' hrl).keep (grown_cell w' qb 2 _) (fun e => by injection e with e; exact hne e)
        have hq' : (w'.setCell ⟨qb, 2, none⟩ (.slice A9 (hs.length + 1) c9)).heap[qb]? = some (.cells #[mv, tv, .slice A9 (hs.length + 1) c9, bv, cv] 26 (0, 0)) :=
          heap_setCell_same w' qb 2 _ _ _ ((hb'.block qb hql).trans ((hBA.block qb hqb2).trans HQ2.out))
        have ho' : OwnT 38 2 w.heap.size ((hs ++ [(⟨ln, tv'⟩ : HdrT)]).map hcells) (.slice A9 (hs.length + 1) c9) (w'.setCell ⟨qb, 2, none⟩ (.slice A9 (hs.length + 1) c9)) := by
          rw [List.map_append]
          exact hown'.grown (grown_cell w' qb 2 _) (fun b hb => by have := (hown'.lt b hb).1; intro e; injection e with e; omega)
        have htw' : Two rb qb w (w'.setCell ⟨qb, 2, none⟩ (.slice A9 (hs.length + 1) c9)) := Two.setq ((HT2.out.trans (Two.below hBA)).low hb') 2 _
        have hms : wleft buf (w'.setCell ⟨qb, 2, none⟩ (.slice A9 (hs.length + 1) c9)) rb < wleft buf wr rb := by
          rw [hwr'.left, HM.out, ← HLt.out]
          omega
        have HMs := Lib.hid hms
        have HWz := Lib.hid hwr'
        have HQz := Lib.hid hq'
        have HOz := Lib.hid ho'
        have HTz := Lib.hid htw'
        clear hms hwr' hq' ho' htw' hBA hBT hown' hb' hg' hblk' hc' hf' hb5 hb6 c2 f2 c5 c6 c6a
        generalize w'.setCell ⟨qb, 2, none⟩ (.slice A9 (hs.length + 1) c9) = wz at *
        go_wp2
        go_roundw
        case rel => exact ⟨f, sz + l.length + 2, hs ++ [(⟨ln, tv'⟩ : HdrT)], r, _, by go_num, HWz.out, HQz.out, HOz.out, HTz.out, by rw [List.length_append]; simp; omega, hzu, HX⟩
        case measure => exact HMs.out
end Go.Proofs.YtlkbfehdiopkbaaGreatDoor

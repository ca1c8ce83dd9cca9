/-
  The walks of docketref10.escaped and docketref10.form. Conditions: the tree lies in memory; its texts and its form are at most so long.
-/
import Derived.Test.YtcamdnfhnianbaaGreatDoorXmlZ21
import Derived.Test.YtcamdnfhnianbaaGreatDoorXmlZ25
namespace Go.Proofs.YtcamdnfhnianbaaGreatDoor
set_option linter.unusedVariables false
set_option linter.unusedSimpArgs false
open Go.RowKit

theorem BRow.form {B : Nat} {l : List UInt8} {v : Value} {w : World} (h : BRow B l v w) : ∃ A c, v = .slice A l.length c ∧ l.length ≤ c ∧ c ≤ maxLen := by
  obtain ⟨A, cap, hv, hcap, hcm, -⟩ := Own.rd (e := 5) (B := B) h
  have e : (Lib.byteCells l).length = l.length := by unfold Lib.byteCells; simp
  rw [e] at hv hcap
  exact ⟨A, cap, hv, hcap, hcm⟩
/-- append(out, s...) of a text, inside a region that draws its order. -/
theorem step_appStr {ops : Array Oper} {o : Oper} {a : Act} {K : Act → World → Prop} {Q : Exit → Act → World → Prop} {X : Prop} {w : World} (hgd : o.guard = none) (sl x : Operand)
    (ho : o.op = .call { callee := .builtin .append, args := #[sl, x], argTypes := #[79, 9] })
    (B : Nat) (v : Value) (l s : List UInt8) (hs : a.eval sl = v) (hown : BRow B l v w) (hx : a.eval x = .string ⟨s.toArray⟩) (hlen : l.length + s.length ≤ 140737488355328) (hB : B ≤ w.heap.size)
    (h : ∀ v' w', BRow B (l ++ s) v' w' → w.grownBy w' v.ownBlock → (v'.ownBlock = v.ownBlock ∨ ∃ k, v'.ownBlock = some k ∧ w.heap.size ≤ k) → K (a.put o.dst v') w') :
    if Region.wanted o (yielded ops a.tmps) = true then Oper.wp Tryz.prog o a w K Q else X := by
  have hw : Region.wanted o (yielded ops a.tmps) = true := by simp [Region.wanted, hgd]
  rw [if_pos hw]
  obtain ⟨i, hi, hz, hsz, hby⟩ := info_parts (show (Tryz.prog.info? 5).map (fun i => (i.zero, i.size, i.bytes)) = some (some (.int .u8 0), 1, 1) by kernel_rfl)
  have hn : (Lib.byteCells l).length = l.length := by unfold Lib.byteCells; simp
  have e1 : (⟨s.toArray⟩ : ByteArray).size = s.length := rfl
  obtain ⟨v', w', hr, h2, h3, h4⟩ := Lib.run_append_own_string (P := Tryz.prog) w B 79 9 o.type 5 i Tryz.underlying79 Tryz.underlying9 hi hz hsz hby v _ _ hown ⟨s.toArray⟩ (by rw [hn, e1]; unfold maxLen; omega) (by rw [hn, e1]; exact hlen) hB
  have h5 := append_row Tryz.underlying79 Tryz.underlying9 hi hz hsz hby hown ⟨s.toArray⟩ (by rw [hn, e1]; unfold maxLen; omega) (by rw [hn, e1]; exact hlen) hr h4
  unfold Oper.wp execOp
  simp only [ho, resolve, invoke, builtin, Sem.run_bind, Sem.run_pure, Result.andThen_ok, List.map_toArray, List.map_cons, List.map_nil, hs, hx, hr]
  refine h v' w' ?_ h3 h5
  have e2 : (Lib.byteCells l).length + (⟨s.toArray⟩ : ByteArray).size = (Lib.byteCells (l ++ s)).length := by rw [hn, e1]; unfold Lib.byteCells; simp
  have e3 : Lib.byteCells l ++ Lib.byteCells (⟨s.toArray⟩ : ByteArray).data.toList = Lib.byteCells (l ++ s) := by unfold Lib.byteCells; simp
  unfold BRow
  rw [← e2, ← e3]
  exact h2
theorem beq_cases (t k : Int) : ((t == k) = true ∧ t = k) ∨ ((t == k) = false ∧ ¬ t = k) := by
  by_cases h : t = k
  · exact .inl ⟨beq_iff_eq.2 h, h⟩
  · exact .inr ⟨beq_eq_false_iff_ne.2 h, h⟩
theorem byte_no {c k : UInt8} (h : c ≠ k) : ¬ ((c.toNat : Int) = (k.toNat : Int)) := by
  intro e
  apply h
  rw [← UInt8.toNat_inj]
  omega
theorem escV_sp {c : UInt8} (h : ¬ escV c = [c]) : c = 38 ∨ c = 60 ∨ c = 34 ∨ c = 9 ∨ c = 10 ∨ c = 13 := by
  apply Classical.byContradiction
  intro hn
  simp only [not_or] at hn
  obtain ⟨n1, n2, n3, n4, n5, n6⟩ := hn
  exact h (by unfold escV; rw [if_neg n1, if_neg n2, if_neg n3, if_neg n4, if_neg n5, if_neg n6])
theorem escT_sp {c : UInt8} (h : ¬ escT c = [c]) : c = 38 ∨ c = 60 ∨ c = 62 ∨ c = 13 := by
  apply Classical.byContradiction
  intro hn
  simp only [not_or] at hn
  obtain ⟨n1, n2, n3, n4⟩ := hn
  exact h (by unfold escT; rw [if_neg n1, if_neg n2, if_neg n3, if_neg n4])
theorem escV_one {c : UInt8} (h : escV c = [c]) : ¬ (c.toNat : Int) = 38 ∧ ¬ (c.toNat : Int) = 60 ∧ ¬ (c.toNat : Int) = 34 ∧ ¬ (c.toNat : Int) = 9 ∧ ¬ (c.toNat : Int) = 10 ∧ ¬ (c.toNat : Int) = 13 := by
  refine ⟨byte_no (k := 38) ?_, byte_no (k := 60) ?_, byte_no (k := 34) ?_, byte_no (k := 9) ?_, byte_no (k := 10) ?_, byte_no (k := 13) ?_⟩ <;> (rintro rfl; revert h; decide)
theorem escT_one {c : UInt8} (h : escT c = [c]) : ¬ (c.toNat : Int) = 38 ∧ ¬ (c.toNat : Int) = 60 ∧ ¬ (c.toNat : Int) = 62 ∧ ¬ (c.toNat : Int) = 13 := by
  refine ⟨byte_no (k := 38) ?_, byte_no (k := 60) ?_, byte_no (k := 62) ?_, byte_no (k := 13) ?_⟩ <;> (rintro rfl; revert h; decide)
theorem esc_take (f : UInt8 → List UInt8) (hf : ∀ c, (f c).length ≤ 6) (s : List UInt8) : ∀ i, ((s.take i).flatMap f).length ≤ 6 * (s.take i).length := by
  intro i
  generalize s.take i = t
  induction t with
  | nil => simp
  | cons c t ih => rw [List.flatMap_cons, List.length_append, List.length_cons]; have := hf c; omega
theorem escT_six (c : UInt8) : (escT c).length ≤ 6 := by unfold escT; (repeat' split) <;> simp
theorem escV_six (c : UInt8) : (escV c).length ≤ 6 := by unfold escV; (repeat' split) <;> simp
theorem flat_snoc (f : UInt8 → List UInt8) {s rest : List UInt8} {i : Nat} {c : UInt8} (h : s.drop i = c :: rest) : (s.take (i + 1)).flatMap f = (s.take i).flatMap f ++ f c := by
  obtain ⟨-, hx, -⟩ := drop_consA h
  rw [List.take_add_one, hx, List.flatMap_append]
  simp
set_option maxHeartbeats 16000000 in
set_option maxRecDepth 100000 in
set_option linter.unusedSimpArgs false in
theorem resc_true (s : List UInt8) (w : World) (hs : s.length ≤ 1000000000) : Calls Tryz.prog 75 #[.string ⟨s.toArray⟩, .bool true] w (Ret (.string ⟨(s.flatMap escV).toArray⟩) w) := by
  obtain ⟨E, hEE⟩ : ∃ E, E = Ret (.string ⟨(s.flatMap escV).toArray⟩) w := ⟨_, rfl⟩
  rw [← hEE]
  have HEE := Lib.hid hEE
  clear hEE
  go_enter Tryz.func75, Tryz.ntmps75
  go_wp2_with fail
  go_loopg [5, 6] s.length (fun gk v5 v6 wr => ∃ i : Nat, i + gk = s.length ∧ v6 = .int .i64 i ∧ Hid (BRow w.heap.size ((s.take i).flatMap escV) v5 wr) ∧ Hid (Below w.heap.size w wr))
  case atStart => exact ⟨0, by omega, rfl, Lib.hid (BRow.nil _ _), Lib.hid (Below.refl _ _)⟩
  case round =>
    obtain ⟨i, hi, rfl, HR, HB⟩ := hrel
    have hsw := HB.out.size
    rcases hd : s.drop i with _ | ⟨c, rest⟩
    · have hie : i = s.length := by have := drop_nil hd; omega
      subst hie
      rw [List.take_length] at HR
      have cT := HR.out.text
      generalize s.flatMap escV = V at *
      clear hd
      go_wp2
      rw [HEE.out]
      exact ⟨rfl, HB.out⟩
    · obtain ⟨hlt, hxb, hr⟩ := drop_cons hd
      have k1 : (i : Int) < s.length := by omega
      have k2 : (0 : Int) ≤ i := by omega
      have HN := Lib.hid (flat_snoc escV hd)
      have hll := esc_take escV escV_six s i
      rw [List.length_take] at hll
      obtain ⟨L, hL⟩ : ∃ L, L = (s.take i).flatMap escV := ⟨_, rfl⟩
      rw [← hL] at HR HN hll
      have hLl : L.length ≤ 6000000000 := by omega
      have h6 := escV_six c
      clear hd hL hll
      by_cases hsp : escV c = [c]
      · have hsp2 := escV_one hsp
        have HE1 := Lib.hid hsp
        have hba : Below wr.heap.size wr (wr.alloc (.cells #[.int .u8 c.toNat] 5)) := (Below.refl _ _).alloc (Nat.le_refl _) _
        have HRa := Lib.hid (HR.out.under hba)
        have HBW := Lib.hid (show BW (wr.alloc (.cells #[.int .u8 c.toNat] 5)) wr.heap.size [c] from BW.lit wr [c])
        have HBa := Lib.hid (HB.out.trans (hba.mono hsw))
        have hsa : w.heap.size ≤ (wr.alloc (.cells #[.int .u8 c.toNat] 5)).heap.size := HBa.out.size
        rcases beq_cases (c.toNat : Int) 38 with ⟨o1, m1⟩ | ⟨o1, m1⟩ <;> rcases beq_cases (c.toNat : Int) 60 with ⟨o2, m2⟩ | ⟨o2, m2⟩ <;> rcases beq_cases (c.toNat : Int) 13 with ⟨o3, m3⟩ | ⟨o3, m3⟩ <;> rcases beq_cases (c.toNat : Int) 62 with ⟨o4, m4⟩ | ⟨o4, m4⟩ <;> rcases beq_cases (c.toNat : Int) 34 with ⟨o5, m5⟩ | ⟨o5, m5⟩ <;> rcases beq_cases (c.toNat : Int) 9 with ⟨o6, m6⟩ | ⟨o6, m6⟩ <;> rcases beq_cases (c.toNat : Int) 10 with ⟨o7, m7⟩ | ⟨o7, m7⟩ <;> first | (exfalso; omega) | skip
        all_goals
          clear m1 m2 m3 m4 m5 m6 m7 hsp hsp2 hba HB HR h6
          go_wp2_with (at_builtin; refine wpList_appBy rfl _ _ rfl w.heap.size u5 L [c] rfl HRa.out wr.heap.size 1 1 rfl rfl HBW.out (by simp only [List.length_cons, List.length_nil]; omega) hsa ?_)
          intro v6 w2 ho6 hg6 hn6
          have HR2 := Lib.hid (show BRow w.heap.size ((s.take (i + 1)).flatMap escV) v6 w2 by rw [HN.out, HE1.out]; exact ho6)
          have HB2 := Lib.hid (HBa.out.trans (HRa.out.below hsa hg6))
          clear ho6 hg6 hn6 HBa HRa HN HE1 HBW
          go_wp2
          go_roundg (gk - 1)
          case measure => omega
          case rel => exact ⟨i + 1, by omega, by go_num, HR2, HB2⟩
      · have hcc := escV_sp hsp
        clear hsp
        rcases hcc with rfl|rfl|rfl|rfl|rfl|rfl
        all_goals
          go_wp2_with (at_builtin; first | refine wpList_appStr rfl _ _ rfl w.heap.size u5 L (escV 38) rfl HR.out rfl (by omega) hsw ?_ | refine wpList_appStr rfl _ _ rfl w.heap.size u5 L (escV 60) rfl HR.out rfl (by omega) hsw ?_ | refine wpList_appStr rfl _ _ rfl w.heap.size u5 L (escV 62) rfl HR.out rfl (by omega) hsw ?_ | refine wpList_appStr rfl _ _ rfl w.heap.size u5 L (escV 13) rfl HR.out rfl (by omega) hsw ?_ | refine wpList_appStr rfl _ _ rfl w.heap.size u5 L (escV 34) rfl HR.out rfl (by omega) hsw ?_ | refine wpList_appStr rfl _ _ rfl w.heap.size u5 L (escV 9) rfl HR.out rfl (by omega) hsw ?_ | refine wpList_appStr rfl _ _ rfl w.heap.size u5 L (escV 10) rfl HR.out rfl (by omega) hsw ?_)
          intro v6 w2 ho6 hg6 hn6
          have HR2 := Lib.hid (show BRow w.heap.size ((s.take (i + 1)).flatMap escV) v6 w2 by rw [HN.out]; exact ho6)
          have HB2 := Lib.hid (HB.out.trans (HR.out.below hsw hg6))
          clear ho6 hg6 hn6 HB HR HN
          go_wp2
          go_roundg (gk - 1)
          case measure => omega
          case rel => exact ⟨i + 1, by omega, by go_num, HR2, HB2⟩
set_option maxHeartbeats 16000000 in
set_option maxRecDepth 100000 in
set_option linter.unusedSimpArgs false in
theorem resc_false (s : List UInt8) (w : World) (hs : s.length ≤ 1000000000) : Calls Tryz.prog 75 #[.string ⟨s.toArray⟩, .bool false] w (Ret (.string ⟨(s.flatMap escT).toArray⟩) w) := by
  obtain ⟨E, hEE⟩ : ∃ E, E = Ret (.string ⟨(s.flatMap escT).toArray⟩) w := ⟨_, rfl⟩
  rw [← hEE]
  have HEE := Lib.hid hEE
  clear hEE
  go_enter Tryz.func75, Tryz.ntmps75
  go_wp2_with fail
  go_loopg [5, 6] s.length (fun gk v5 v6 wr => ∃ i : Nat, i + gk = s.length ∧ v6 = .int .i64 i ∧ Hid (BRow w.heap.size ((s.take i).flatMap escT) v5 wr) ∧ Hid (Below w.heap.size w wr))
  case atStart => exact ⟨0, by omega, rfl, Lib.hid (BRow.nil _ _), Lib.hid (Below.refl _ _)⟩
  case round =>
    obtain ⟨i, hi, rfl, HR, HB⟩ := hrel
    have hsw := HB.out.size
    rcases hd : s.drop i with _ | ⟨c, rest⟩
    · have hie : i = s.length := by have := drop_nil hd; omega
      subst hie
      rw [List.take_length] at HR
      have cT := HR.out.text
      generalize s.flatMap escT = V at *
      clear hd
      go_wp2
      rw [HEE.out]
      exact ⟨rfl, HB.out⟩
    · obtain ⟨hlt, hxb, hr⟩ := drop_cons hd
      have k1 : (i : Int) < s.length := by omega
      have k2 : (0 : Int) ≤ i := by omega
      have HN := Lib.hid (flat_snoc escT hd)
      have hll := esc_take escT escT_six s i
      rw [List.length_take] at hll
      obtain ⟨L, hL⟩ : ∃ L, L = (s.take i).flatMap escT := ⟨_, rfl⟩
      rw [← hL] at HR HN hll
      have hLl : L.length ≤ 6000000000 := by omega
      have h6 := escT_six c
      clear hd hL hll
      by_cases hsp : escT c = [c]
      · have hsp2 := escT_one hsp
        have HE1 := Lib.hid hsp
        have hba : Below wr.heap.size wr (wr.alloc (.cells #[.int .u8 c.toNat] 5)) := (Below.refl _ _).alloc (Nat.le_refl _) _
        have HRa := Lib.hid (HR.out.under hba)
        have HBW := Lib.hid (show BW (wr.alloc (.cells #[.int .u8 c.toNat] 5)) wr.heap.size [c] from BW.lit wr [c])
        have HBa := Lib.hid (HB.out.trans (hba.mono hsw))
        have hsa : w.heap.size ≤ (wr.alloc (.cells #[.int .u8 c.toNat] 5)).heap.size := HBa.out.size
        rcases beq_cases (c.toNat : Int) 38 with ⟨o1, m1⟩ | ⟨o1, m1⟩ <;> rcases beq_cases (c.toNat : Int) 60 with ⟨o2, m2⟩ | ⟨o2, m2⟩ <;> rcases beq_cases (c.toNat : Int) 13 with ⟨o3, m3⟩ | ⟨o3, m3⟩ <;> rcases beq_cases (c.toNat : Int) 62 with ⟨o4, m4⟩ | ⟨o4, m4⟩ <;> rcases beq_cases (c.toNat : Int) 34 with ⟨o5, m5⟩ | ⟨o5, m5⟩ <;> rcases beq_cases (c.toNat : Int) 9 with ⟨o6, m6⟩ | ⟨o6, m6⟩ <;> rcases beq_cases (c.toNat : Int) 10 with ⟨o7, m7⟩ | ⟨o7, m7⟩ <;> first | (exfalso; omega) | skip
        all_goals
          clear m1 m2 m3 m4 m5 m6 m7 hsp hsp2 hba HB HR h6
          go_wp2_with (at_builtin; refine wpList_appBy rfl _ _ rfl w.heap.size u5 L [c] rfl HRa.out wr.heap.size 1 1 rfl rfl HBW.out (by simp only [List.length_cons, List.length_nil]; omega) hsa ?_)
          intro v6 w2 ho6 hg6 hn6
          have HR2 := Lib.hid (show BRow w.heap.size ((s.take (i + 1)).flatMap escT) v6 w2 by rw [HN.out, HE1.out]; exact ho6)
          have HB2 := Lib.hid (HBa.out.trans (HRa.out.below hsa hg6))
          clear ho6 hg6 hn6 HBa HRa HN HE1 HBW
          go_wp2
          go_roundg (gk - 1)
          case measure => omega
          case rel => exact ⟨i + 1, by omega, by go_num, HR2, HB2⟩
      · have hcc := escT_sp hsp
        clear hsp
        rcases hcc with rfl|rfl|rfl|rfl
        all_goals
          go_wp2_with (at_builtin; first | refine wpList_appStr rfl _ _ rfl w.heap.size u5 L (escT 38) rfl HR.out rfl (by omega) hsw ?_ | refine wpList_appStr rfl _ _ rfl w.heap.size u5 L (escT 60) rfl HR.out rfl (by omega) hsw ?_ | refine wpList_appStr rfl _ _ rfl w.heap.size u5 L (escT 62) rfl HR.out rfl (by omega) hsw ?_ | refine wpList_appStr rfl _ _ rfl w.heap.size u5 L (escT 13) rfl HR.out rfl (by omega) hsw ?_ | refine wpList_appStr rfl _ _ rfl w.heap.size u5 L (escT 34) rfl HR.out rfl (by omega) hsw ?_ | refine wpList_appStr rfl _ _ rfl w.heap.size u5 L (escT 9) rfl HR.out rfl (by omega) hsw ?_ | refine wpList_appStr rfl _ _ rfl w.heap.size u5 L (escT 10) rfl HR.out rfl (by omega) hsw ?_)
          intro v6 w2 ho6 hg6 hn6
          have HR2 := Lib.hid (show BRow w.heap.size ((s.take (i + 1)).flatMap escT) v6 w2 by rw [HN.out]; exact ho6)
          have HB2 := Lib.hid (HB.out.trans (HR.out.below hsw hg6))
          clear ho6 hg6 hn6 HB HR HN
          go_wp2
          go_roundg (gk - 1)
          case measure => omega
          case rel => exact ⟨i + 1, by omega, by go_num, HR2, HB2⟩
/-- M is L and x behind it; or it and they are longer than may be. -/
def UptoIs (L x M : List UInt8) : Prop := M = L ++ x ∨ (65536 < M.length ∧ M.length ≤ L.length + x.length)
theorem UptoIs.step {L x M y N : List UInt8} (h1 : UptoIs L x M) (h2 : UptoIs M y N) : UptoIs L (x ++ y) N := by
  unfold UptoIs at *
  rw [List.length_append]
  rcases h1 with rfl | ⟨a, b⟩
  · rcases h2 with rfl | ⟨c, d⟩
    · left; rw [List.append_assoc]
    · right; rw [List.length_append] at d; omega
  · rcases h2 with rfl | ⟨c, d⟩
    · right; rw [List.length_append]; omega
    · right; omega
theorem UptoIs.len {L x M : List UInt8} (h : UptoIs L x M) : M.length ≤ L.length + x.length := by
  rcases h with rfl | ⟨a, b⟩
  · rw [List.length_append]; exact Nat.le_refl _
  · omega
theorem UptoIs.re {L x L' x' M : List UInt8} (h : UptoIs L' x' M) (e : L ++ x = L' ++ x') : UptoIs L x M := by
  have el := congrArg List.length e
  rw [List.length_append, List.length_append] at el
  rcases h with rfl | ⟨a, b⟩
  · exact .inl e.symm
  · exact .inr ⟨a, by omega⟩
theorem UptoIs.app {L x M : List UInt8} (h : UptoIs L x M) (y : List UInt8) : UptoIs L (x ++ y) (M ++ y) := h.step (.inl rfl)
/-- what is made anew, and the row that a call grows: all else is kept. -/
structure RGr (o o' : Option Nat) (w w' : World) : Prop where
  os : w'.os = w.os
  tape : w'.tape = w.tape
  output : w'.output = w.output
  size : w.heap.size ≤ w'.heap.size
  block : ∀ k, k < w.heap.size → some k ≠ o → w'.heap[k]? = w.heap[k]?
  row : o' = o ∨ ∃ k, o' = some k ∧ w.heap.size ≤ k
theorem RGr.refl (o : Option Nat) (w : World) : RGr o o w w := ⟨rfl, rfl, rfl, Nat.le_refl _, fun _ _ _ => rfl, .inl rfl⟩
theorem RGr.trans {o o1 o2 : Option Nat} {w w1 w2 : World} (h1 : RGr o o1 w w1) (h2 : RGr o1 o2 w1 w2) : RGr o o2 w w2 :=
  ⟨h2.os.trans h1.os, h2.tape.trans h1.tape, h2.output.trans h1.output, Nat.le_trans h1.size h2.size,
    fun k hk hne => (h2.block k (Nat.lt_of_lt_of_le hk h1.size) (row_off h1.row hne hk)).trans (h1.block k hk hne),
    h2.row.elim (fun e => by rw [e]; exact h1.row) fun ⟨k, e, hs⟩ => .inr ⟨k, e, Nat.le_trans h1.size hs⟩⟩
theorem RGr.under {o : Option Nat} {w w' : World} (hb : Below w.heap.size w w') : RGr o o w w' := ⟨hb.os, hb.tape, hb.output, hb.size, fun k hk _ => hb.block k hk, .inl rfl⟩
theorem RGr.of {o o' : Option Nat} {w w' : World} (hg : w.grownBy w' o) (hn : o' = o ∨ ∃ k, o' = some k ∧ w.heap.size ≤ k) : RGr o o' w w' := ⟨hg.os, hg.tape, hg.output, hg.size, fun k hk hne => hg.block k hk hne, hn⟩
theorem RGr.low {B : Nat} {o o' : Option Nat} {w w' : World} (h : RGr o o' w w') (ho : ∀ k, o = some k → B ≤ k) (hB : B ≤ w.heap.size) : Below B w w' :=
  ⟨h.os, h.tape, h.output, h.size, fun k hk => h.block k (by omega) (fun e => by have := ho k e.symm; omega)⟩
/-- what form keeps: the node in block q, the row of bytes. -/
structure FmS (B q : Nat) (C : Array Value) (o0 : Option Nat) (w1 : World) (M : List UInt8) (v : Value) (wr : World) : Prop where
  at_ : wr.heap[q]? = some (.cells C 36 (0, 0))
  row : BRow B M v wr
  ne : some q ≠ v.ownBlock
  fr : RGr o0 v.ownBlock w1 wr
  sz : B ≤ wr.heap.size
section
variable {B q : Nat} {C : Array Value} {o0 : Option Nat} {w1 : World} {M M' : List UInt8} {v v' : Value} {wr w' : World}
theorem FmS.step (h : FmS B q C o0 w1 M v wr) (h1 : BRow B M' v' w') (hg : RGr v.ownBlock v'.ownBlock wr w') : FmS B q C o0 w1 M' v' w' :=
  ⟨(hg.block q (xlt h.at_) h.ne).trans h.at_, h1, row_off hg.row h.ne (xlt h.at_), h.fr.trans hg, Nat.le_trans h.sz hg.size⟩
theorem FmS.app (h : FmS B q C o0 w1 M v wr) (h1 : BRow B M' v' w') (hg : wr.grownBy w' v.ownBlock) (hn : v'.ownBlock = v.ownBlock ∨ ∃ k, v'.ownBlock = some k ∧ wr.heap.size ≤ k) : FmS B q C o0 w1 M' v' w' := h.step h1 (.of hg hn)
theorem FmS.under (h : FmS B q C o0 w1 M v wr) (hb : Below wr.heap.size wr w') : FmS B q C o0 w1 M v w' := h.step (h.row.under hb) (.under hb)
end
def FmP (B : Nat) (L x : List UInt8) (v : Value) (w : World) (e : Ending) (w' : World) : Prop := ∃ (v' : Value) (M : List UInt8), e = .returned v' ∧ UptoIs L x M ∧ BRow B M v' w' ∧ RGr v.ownBlock v'.ownBlock w w'
set_option maxHeartbeats 32000000 in
set_option maxRecDepth 100000 in
set_option linter.unusedSimpArgs false in
theorem rform_any {w0 : World} {cs : List Value} {n : NodeT} (h : NodeP anyB w0 cs n) : SmallN 2000000 n → ∀ (B : Nat) (L up : List UInt8) (v : Value) (w : World), w0.heap.size ≤ B → Below w0.heap.size w0 w → B ≤ w.heap.size → BRow B L v w → L.length + (formN up n).length ≤ 90000000000000 →
    Calls Tryz.prog 49 #[v, .agg cs.toArray, .string ⟨up.toArray⟩] w (FmP B L (formN up n) v w) := by
  induction h with
  | mk t s n ats ks av A cap rows ha hl hm hA hc hk ih =>
  intro hsm B L up v w hB hbw hBw hrow hlen
  obtain ⟨st, ss, sn, sa, sx, sk, skk⟩ := hsm.parts
  replace st : t.length ≤ 2000000 := st
  replace ss : s.length ≤ 2000000 := ss
  replace sn : n.length ≤ 2000000 := sn
  replace sa : ats.length ≤ 2000000 := sa
  replace sk : ks.length ≤ 2000000 := sk
  replace sx : ∀ a ∈ ats, a.name.length ≤ 2000000 ∧ a.value.length ≤ 2000000 := sx
  replace skk : ∀ k ∈ ks, SmallN 2000000 k := skk
  obtain ⟨avA, avc, rfl⟩ := tab_shape ha.1
  obtain ⟨rA, rc, rfl, hrc1, hrc2⟩ := hrow.form
  unfold maxLen at hrc2
  show Calls Tryz.prog 49 #[.slice rA L.length rc, .agg #[.string ⟨t.toArray⟩, .string ⟨s.toArray⟩, .string ⟨n.toArray⟩, .slice avA ats.length avc, .slice A ks.length cap], .string ⟨up.toArray⟩] w _
  have hb0 : Below w.heap.size w (w.alloc (.cells #[.string ⟨t.toArray⟩, .string ⟨s.toArray⟩, .string ⟨n.toArray⟩, .slice avA ats.length avc, .slice A ks.length cap] 36 (0, 0))) := (Below.refl _ _).alloc (Nat.le_refl _) _
  have hq := heap_alloc_new w (.cells #[.string ⟨t.toArray⟩, .string ⟨s.toArray⟩, .string ⟨n.toArray⟩, .slice avA ats.length avc, .slice A ks.length cap] 36 (0, 0))
  have hrl := hrow.lt
  have HS0 := Lib.hid (⟨hq, hrow.under hb0, (fun e => by have := (hrl _ e.symm).2; omega), .under hb0, Nat.le_trans hBw hb0.size⟩ : FmS B w.heap.size #[.string ⟨t.toArray⟩, .string ⟨s.toArray⟩, .string ⟨n.toArray⟩, .slice avA ats.length avc, .slice A ks.length cap] (Value.slice rA L.length rc).ownBlock w L (.slice rA L.length rc) (w.alloc (.cells #[.string ⟨t.toArray⟩, .string ⟨s.toArray⟩, .string ⟨n.toArray⟩, .slice avA ats.length avc, .slice A ks.length cap] 36 (0, 0))))
  have HLo := Lib.hid (fun k (e : (Value.slice rA L.length rc).ownBlock = some k) => (hrl k e).1)
  obtain ⟨E, hEE⟩ : ∃ E, E = FmP B L (formN up (.mk t s n ats ks)) (.slice rA L.length rc) w := ⟨_, rfl⟩
  rw [← hEE]
  have HEE := Lib.hid hEE
  clear hEE hq hb0 hrow hrl
  by_cases hbig : 65536 < L.length
  · have j1 : (65536 : Int) < L.length := by omega
    clear hbw ih hk hc hA ha hsm sx skk hlen
    go_enter Tryz.func49, Tryz.ntmps49
    go_wp2
    rw [HEE.out]
    exact ⟨_, L, rfl, .inr ⟨hbig, by omega⟩, HS0.out.row, HS0.out.fr⟩
  have j1 : ¬ (65536 : Int) < L.length := by omega
  by_cases hn : n = []
  · subst hn
    rw [form_text] at hlen HEE
    have HVl := esc_len6 escT_le t
    have hsz := HS0.out.sz
    clear hbw ih hk hc hA ha hsm sx skk
    go_enter Tryz.func49, Tryz.ntmps49
    go_wp2_with fail
    refine (resc_false t _ (by omega)).mono ?_
    rintro e w2 ⟨rfl, hb2⟩
    have HS2 := Lib.hid (HS0.out.under hb2)
    have hsz2 := HS2.out.sz
    generalize t.flatMap escT = V at *
    clear hb2 HS0
    go_wp2_with (at_builtin; refine wpList_appStr rfl _ _ rfl B (.slice rA L.length rc) L V rfl HS2.out.row rfl (by omega) hsz2 ?_)
    intro v3 w3 ho3 hg3 hn3
    have HS3 := Lib.hid (HS2.out.app ho3 hg3 hn3)
    clear ho3 hg3 hn3 HS2
    go_wp2
    rw [HEE.out]
    exact ⟨_, _, rfl, .inl rfl, HS3.out.row, HS3.out.fr⟩
  have HFE := Lib.hid (form_elem hn up t s ats ks)
  have HHd := Lib.hid (headF_eq s n ats up)
  rw [HFE.out, HHd.out] at hlen
  have HLen := Lib.hid hlen
  unfold maxLen at hm
  obtain ⟨-, hac, ham, hat⟩ := attrs_at ha
  unfold maxLen at ham
  have b1 : (n == []) = false := beq_eq_false_iff_ne.2 hn
  have b2 : n.isEmpty = false := by cases n with | nil => exact absurd rfl hn | cons => rfl
  have HAt := Lib.hid hat
  have HSx := Lib.hid sx
  have HBw := Lib.hid hbw
  have HIH := Lib.hid (fun j x (hx : ks[j]? = some x) (L : List UInt8) (v : Value) wx (hb : Below B w wx) (hr : BRow B L v wx) (hle : L.length + (formN s x).length ≤ 90000000000000) => ih j x hx (skk x (List.mem_of_getElem? hx)) B L s v wx hB (hbw.trans (hb.mono hB)) (Nat.le_trans hBw hb.size) hr hle)
  have HRow := Lib.hid (fun j x (hx : ks[j]? = some x) => row_at (b := 0) (o := 0) (v := .pointer none) hc (List.getElem?_eq_some_iff.1 hx).1 (hk j x hx))
  have hsz := HS0.out.sz
  have hlt1 : L.length + (60 :: n).length ≤ 90000000000000 := by have := HLen.out; simp only [List.length_append] at this; omega
  clear ih hk hc hA ha hbw sx skk hat hsm hlen
  go_enter Tryz.func49, Tryz.ntmps49
  go_wp2_with (at_builtin; refine wpList_appStr rfl _ _ rfl B (.slice rA L.length rc) L (60 :: n) rfl HS0.out.row rfl (by omega) hsz ?_)
  intro v1 w1 ho1 hg1 hn1
  have HS1 := Lib.hid (HS0.out.app ho1 hg1 (by simpa using hn1))
  obtain ⟨q, hqe⟩ : ∃ q, q = w.heap.size := ⟨_, rfl⟩
  rw [← hqe] at HS1 ⊢
  obtain ⟨o0, ho0⟩ : ∃ o, o = (Value.slice rA L.length rc).ownBlock := ⟨_, rfl⟩
  rw [← ho0] at HS1 HLo
  have HO0 := Lib.hid ho0
  obtain ⟨C, hC⟩ : ∃ C : Array Value, C = #[.string ⟨t.toArray⟩, .string ⟨s.toArray⟩, .string ⟨n.toArray⟩, .slice avA ats.length avc, .slice A ks.length cap] := ⟨_, rfl⟩
  have HC1 := Lib.hid (show C[1]? = some (.string ⟨s.toArray⟩) by rw [hC]; rfl)
  have HC2 := Lib.hid (show C[2]? = some (.string ⟨n.toArray⟩) by rw [hC]; rfl)
  have HC3 := Lib.hid (show C[3]? = some (.slice avA ats.length avc) by rw [hC]; rfl)
  have HC4 := Lib.hid (show C[4]? = some (.slice A ks.length cap) by rw [hC]; rfl)
  rw [← hC] at HS1
  obtain ⟨L1, hL1⟩ : ∃ L1, L1 = L ++ (60 :: n) := ⟨_, rfl⟩
  rw [← hL1] at HS1
  have hL1l : L1.length = L.length + (60 :: n).length := by rw [hL1, List.length_append]
  have HL1 := Lib.hid hL1
  have x1 := (xat HS1.out.at_ 1).trans HC1.out
  have hsz1 := HS1.out.sz
  clear hqe ho1 hg1 hn1 HS0 hsz ho0 hC hL1
  go_upto_if 29 with (fail)
  go_cut [0] (fun v0 wc => Hid (FmS B q C o0 w (L1 ++ spF s up) v0 wc))
  case first =>
    by_cases hsu : s = up
    · have hne : (s == up) = true := beq_iff_eq.2 hsu
      have HS := Lib.hid (show spF s up = [] from if_pos hsu)
      rw [hne]
      clear hsu hne HAt HIH HRow
      go_wp2
      go_meet
      rw [HS.out, List.append_nil]
      exact HS1
    · have hne : (s == up) = false := beq_eq_false_iff_ne.2 hsu
      have HS := Lib.hid (show spF s up = 32 :: 120 :: 109 :: 108 :: 110 :: 115 :: 61 :: 34 :: (s.flatMap escV ++ [34]) by rw [show spF s up = [32, 120, 109, 108, 110, 115, 61, 34] ++ s.flatMap escV ++ [34] from if_neg hsu]; simp)
      rw [hne]
      clear hsu hne HAt HIH HRow
      go_wp2_with fail
      refine (resc_true s w1 (by omega)).mono ?_
      rintro e w2 ⟨rfl, hb2⟩
      have HS2 := Lib.hid (HS1.out.under hb2)
      have hsz2 := HS2.out.sz
      have he6 := esc_len6 escV_le s
      generalize s.flatMap escV = V at *
      clear hb2 HS1
      go_wp2_with (at_builtin; refine wpList_appStr rfl _ _ rfl B v1 L1 (32 :: 120 :: 109 :: 108 :: 110 :: 115 :: 61 :: 34 :: (V ++ [34])) rfl HS2.out.row rfl (by simp only [List.length_append, List.length_cons, List.length_nil] at hlt1 hL1l ⊢; omega) hsz2 ?_)
      intro v3 w3 ho3 hg3 hn3
      have HS3 := Lib.hid (show FmS B q C o0 w (L1 ++ spF s up) v3 w3 by rw [HS.out]; exact HS2.out.app ho3 hg3 hn3)
      clear ho3 hg3 hn3 HS2
      go_wp2
      go_meet
      exact HS3
  case rest =>
  obtain ⟨L2, hL2⟩ : ∃ L2, L2 = L1 ++ spF s up := ⟨_, rfl⟩
  rw [← hL2] at hcut
  have hL2l : L2.length = L.length + (60 :: n).length + (spF s up).length := by rw [hL2, List.length_append, hL1l]
  have HL2 := Lib.hid (show L2 = L ++ (60 :: n) ++ spF s up by rw [hL2, HL1.out])
  have HS3 := hcut
  have x3 := (xat HS3.out.at_ 3).trans HC3.out
  have hl3 : L.length + (60 :: n).length + (spF s up).length + (ats.flatMap attrF).length ≤ 90000000000000 := by
    have := HLen.out
    unfold spF
    simp only [List.length_append] at this ⊢
    omega
  clear x1 hlt1 HS1 hsz1 hcut hL2 HL1 hL1l
  go_wp2_with fail
  go_loopg [0, 7] ats.length (fun gk v0 iv wr => ∃ k : Nat, k + gk = ats.length ∧ iv = .int .i64 k ∧ Hid (FmS B q C o0 w (L2 ++ (ats.take k).flatMap attrF) v0 wr))
  case atStart => exact ⟨0, by omega, rfl, Lib.hid (by rw [List.take_zero]; show FmS _ _ _ _ _ (_ ++ []) _ _; rw [List.append_nil]; exact HS3.out)⟩
  case round =>
    obtain ⟨k, hkg, rfl, HS4⟩ := hrel
    have y3 := (xat HS4.out.at_ 3).trans HC3.out
    clear x3 HS3
    rcases hd : ats.drop k with _ | ⟨a, rest⟩
    · have hk2 : k = ats.length := by have := drop_nil hd; omega
      subst hk2
      have HS5 := Lib.hid (show FmS B q C o0 w (L2 ++ ats.flatMap attrF) u0 wr by have := HS4.out; rw [List.take_length] at this; exact this)
      have x4 := (xat HS5.out.at_ 4).trans HC4.out
      have hsz5 := HS5.out.sz
      have hl5 : (L2 ++ ats.flatMap attrF).length ≤ 90000000000000 := by simp only [List.length_append]; omega
      have HTot := Lib.hid (show L ++ formN up (.mk t s n ats ks) = L2 ++ ats.flatMap attrF ++ (if ks.isEmpty then [47, 62] else 62 :: (formL s ks ++ ([60, 47] ++ (n ++ [62])))) by
        rw [HL2.out, HFE.out, HHd.out]
        unfold spF
        simp only [List.append_assoc])
      obtain ⟨L5, hL5⟩ : ∃ L5, L5 = L2 ++ ats.flatMap attrF := ⟨_, rfl⟩
      rw [← hL5] at HS5 HTot hl5
      have hlT : L5.length + (if ks.isEmpty then [47, 62] else 62 :: (formL s ks ++ ([60, 47] ++ (n ++ [62])))).length ≤ 90000000000000 := by
        have := HLen.out
        rw [hL5, HL2.out]
        unfold spF
        simp only [List.length_append] at this ⊢
        omega
      clear hd HS4 hl3 hL5 HAt HSx HLen HFE HHd
      by_cases hk0 : ks = []
      · have HT2 := Lib.hid (show L ++ formN up (.mk t s n ats ks) = L5 ++ [47, 62] by rw [HTot.out, hk0]; rfl)
        have b3 : ((ks.length : Int) == 0) = true := by rw [hk0]; rfl
        have hkl0 : (ks.length : Int) = 0 := by rw [hk0]; rfl
        clear HTot hlT HIH HRow
        subst hk0
        go_wp2_with (at_builtin; refine wpList_appStr rfl _ _ rfl B u0 L5 [47, 62] rfl HS5.out.row rfl (by simp only [List.length_cons, List.length_nil]; omega) hsz5 ?_)
        intro v6 w6 ho6 hg6 hn6
        have HS6 := Lib.hid (HS5.out.app ho6 hg6 hn6)
        clear ho6 hg6 hn6 HS5
        go_wp2
        rw [HEE.out]
        exact ⟨_, _, rfl, .inl HT2.out.symm, HS6.out.row, by rw [← HO0.out]; exact HS6.out.fr⟩
      have hkl0 : ((ks.length : Int) == 0) = false := by rw [beq_eq_false_iff_ne]; have := List.length_pos_iff.2 hk0; omega
      have HT2 := Lib.hid (show L ++ formN up (.mk t s n ats ks) = (L5 ++ [62]) ++ (formL s ks ++ (60 :: 47 :: (n ++ [62]))) by
        rw [HTot.out, if_neg (by cases ks with | nil => exact absurd rfl hk0 | cons => simp)]
        simp)
      have hlU : L5.length + 1 + (formL s ks).length + n.length + 3 ≤ 90000000000000 := by
        rw [if_neg (by cases ks with | nil => exact absurd rfl hk0 | cons => simp)] at hlT
        simp only [List.length_append, List.length_cons, List.length_nil] at hlT
        omega
      have hba : Below wr.heap.size wr (wr.alloc (.cells #[.int .u8 62] 5)) := (Below.refl _ _).alloc (Nat.le_refl _) _
      have HS5a := Lib.hid (HS5.out.under hba)
      have HBW := Lib.hid (show BW (wr.alloc (.cells #[.int .u8 62] 5)) wr.heap.size [62] from BW.lit wr [62])
      have hsza := HS5a.out.sz
      clear HTot hlT hk0 hba HS5
      go_wp2_with (at_builtin; refine wpList_appBy rfl _ _ rfl B u0 L5 [62] rfl HS5a.out.row wr.heap.size 1 1 rfl rfl HBW.out (by simp only [List.length_cons, List.length_nil]; omega) hsza ?_)
      intro v6 w6 ho6 hg6 hn6
      have HS6 := Lib.hid (HS5a.out.app ho6 hg6 (by simpa using hn6))
      have y4 := (xat HS6.out.at_ 4).trans HC4.out
      clear ho6 hg6 hn6 HS5a HBW x4 hsz5 hsza y3
      go_wp2_with fail
      go_loopg [0, 8] ks.length (fun gk v0 iv wr => ∃ (k : Nat) (M : List UInt8), k + gk = ks.length ∧ iv = .int .i64 k ∧ Hid (UptoIs (L5 ++ [62]) (formL s (ks.take k)) M) ∧ Hid (FmS B q C o0 w M v0 wr))
      case atStart => exact ⟨0, L5 ++ [62], by omega, rfl, Lib.hid (by rw [List.take_zero, formL]; exact .inl (List.append_nil _).symm), HS6⟩
      case round =>
        obtain ⟨k, M, hkg2, rfl, HU, HS7⟩ := hrel
        have z4 := (xat HS7.out.at_ 4).trans HC4.out
        have hsz7 := HS7.out.sz
        have hMl := HU.out.len
        rw [List.length_append, List.length_cons, List.length_nil] at hMl
        clear y4 HS6
        rcases hd : ks.drop k with _ | ⟨x, rest⟩
        · have hk2 : k = ks.length := by have := drop_nil hd; omega
          subst hk2
          rw [List.take_length] at HU hMl
          have z2 := (xat HS7.out.at_ 2).trans HC2.out
          clear hd HIH HRow
          go_wp2_with (at_builtin; refine wpList_appStr rfl _ _ rfl B u0 M (60 :: 47 :: (n ++ [62])) rfl HS7.out.row rfl (by simp only [List.length_append, List.length_cons, List.length_nil]; omega) hsz7 ?_)
          intro v9 w9 ho9 hg9 hn9
          have HS9 := Lib.hid (HS7.out.app ho9 hg9 hn9)
          clear ho9 hg9 hn9 HS7
          go_wp2
          rw [HEE.out]
          exact ⟨_, _, rfl, (HU.out.app _).re HT2.out, HS9.out.row, by rw [← HO0.out]; exact HS9.out.fr⟩
        · obtain ⟨hlt, hx, hr⟩ := drop_consA hd
          obtain ⟨bb, o, aA, ac, kA, kc, rfl, hbl, hrow, e0, e1, e2, e3, e4⟩ := HRow.out k x hx
          have hbB : Below B w wr := HS7.out.fr.low HLo.out hBw
          have hb7 : Below w0.heap.size w0 wr := HBw.out.trans (hbB.mono hB)
          have d0 := (hb7.cell (p := ⟨bb, o + k * 5, none⟩) hbl).trans e0
          have d1 := (hb7.cell (p := ⟨bb, o + k * 5 + 1, none⟩) hbl).trans e1
          have d2 := (hb7.cell (p := ⟨bb, o + k * 5 + 2, none⟩) hbl).trans e2
          have d3 := (hb7.cell (p := ⟨bb, o + k * 5 + 3, none⟩) hbl).trans e3
          have d4 := (hb7.cell (p := ⟨bb, o + k * 5 + 4, none⟩) hbl).trans e4
          have z1 := (xat HS7.out.at_ 1).trans HC1.out
          have hfl := congrArg List.length (formL_next (up := s) hx)
          have hfp := formL_part s ks (k + 1)
          rw [List.length_append] at hfl
          have hdr : Below wr.heap.size wr wr.drew := below_draws (Below.refl _ _) 1
          have HIx := Lib.hid (HIH.out k x hx M u0 wr.drew (hbB.trans (hdr.mono hsz7)) (HS7.out.row.under hdr) (by omega))
          rw [hrow] at HIx
          have HNx := Lib.hid (formL_next (up := s) hx)
          have k1 : (k : Int) < ks.length := by omega
          have k2 : (0 : Int) ≤ k := by omega
          clear hd hx hr hrow e0 e1 e2 e3 e4 hb7 hbB hfl hfp
          go_upto_region 18 with (fail)
          go_region_law (first | (go_simp; go_at_call 49; refine (HIx.out).mono ?_; rintro e w9 ⟨v9, M9, rfl, hu9, hr9, hg9⟩))
          all_goals
            have HS9 := Lib.hid (HS7.out.step hr9 ((RGr.under hdr).trans hg9))
            have HU9 := Lib.hid (show UptoIs (L5 ++ [62]) (formL s (ks.take (k + 1))) M9 by rw [HNx.out]; exact HU.out.step hu9)
            clear hu9 hr9 hg9 HS7 HU HIx HNx d0 d1 d2 d3 d4 z1 z4 hdr
            go_wp2
            go_roundg (gk - 1)
            case measure => omega
            case rel => exact ⟨k + 1, M9, by omega, by go_num, HU9, HS9⟩
    · obtain ⟨hlt, hx, hr⟩ := drop_consA hd
      obtain ⟨bb, o, rfl, hbl, e0, e1⟩ := HAt.out k a hx
      have hbB : Below B w wr := HS4.out.fr.low HLo.out hBw
      have hb7 : Below w0.heap.size w0 wr := HBw.out.trans (hbB.mono hB)
      have d0 := (hb7.cell (p := ⟨bb, o + k * 2, none⟩) hbl).trans e0
      have d1 := (hb7.cell (p := ⟨bb, o + k * 2 + 1, none⟩) hbl).trans e1
      have hsm := HSx.out a (List.mem_of_getElem? hx)
      have hfl := congrArg List.length (flat_next hx)
      have hfp := flat_part ats (k + 1)
      rw [List.length_append] at hfl
      have HNx := Lib.hid (flat_next hx)
      have hsz4 := HS4.out.sz
      obtain ⟨L3, hL3⟩ : ∃ L3, L3 = L2 ++ (ats.take k).flatMap attrF := ⟨_, rfl⟩
      rw [← hL3] at HS4
      have hL3l : L3.length = L2.length + ((ats.take k).flatMap attrF).length := by rw [hL3, List.length_append]
      have HN3 := Lib.hid (show L2 ++ (ats.take (k + 1)).flatMap attrF = L3 ++ attrF a by rw [HNx.out, hL3, List.append_assoc])
      obtain ⟨an, avl⟩ := a
      simp only at *
      have hlk : L3.length + (attrF ⟨an, avl⟩).length ≤ 90000000000000 := by omega
      have k1 : (k : Int) < ats.length := by omega
      have k2 : (0 : Int) ≤ k := by omega
      have hblr : bb < wr.heap.size := by have := hb7.size; omega
      have hqr : q < wr.heap.size := xlt HS4.out.at_
      have hdr : Below wr.heap.size wr wr.drew := below_draws (Below.refl _ _) 1
      have HEs := Lib.hid (fun w2 => resc_true avl w2 (by omega))
      have he6 := esc_len6 escV_le avl
      obtain ⟨V, hV⟩ : ∃ V, V = avl.flatMap escV := ⟨_, rfl⟩
      rw [← hV] at HEs he6
      have HV := Lib.hid (show 32 :: (an ++ 61 :: 34 :: (V ++ [34])) = attrF ⟨an, avl⟩ by rw [hV]; unfold attrF; simp)
      have g1 : ¬ 9223372036854775807 < 1 + an.length := by omega
      have g2 : ¬ 9223372036854775807 < an.length + 1 + 2 := by omega
      have g3 : ¬ 9223372036854775807 < an.length + 2 + 1 + V.length := by omega
      have g4 : ¬ 9223372036854775807 < an.length + (V.length + 1 + 1) + 1 + 1 := by omega
      clear hd hx hr e0 e1 hb7 hbB hfl hfp HIH HRow hL3 hV HNx
      go_upto_region 11 with (fail)
      go_region_law (first
        | (go_simp; go_at_call 75; refine (HEs.out _).mono ?_; rintro e w5 ⟨rfl, hb5⟩; have hb5' : Below wr.heap.size wr w5 := hdr.trans hb5; have f0 := (hb5'.cell (p := ⟨bb, o + k * 2, none⟩) hblr).trans d0; have f1 := (hb5'.cell (p := ⟨bb, o + k * 2 + 1, none⟩) hblr).trans d1; have f3 := (hb5'.cell (p := ⟨q, 3, none⟩) hqr).trans y3; have hsz5 := Nat.le_trans hsz4 hb5'.size; have hrw5 := HS4.out.row.under hb5')
        | (refine step_appStr rfl (.tmp 44) (.tmp 61) rfl B u0 L3 (32 :: (an ++ 61 :: 34 :: (V ++ [34]))) rfl hrw5 rfl (by simp only [List.length_append, List.length_cons, List.length_nil]; omega) hsz5 ?_; intro v9 w9 ho9 hg9 hn9))
      all_goals
        have HS9 := Lib.hid (show FmS B q C o0 w (L2 ++ (ats.take (k + 1)).flatMap attrF) v9 w9 by rw [HN3.out, ← HV.out]; exact (HS4.out.under hb5').app ho9 hg9 hn9)
        clear ho9 hg9 hn9 hb5 hb5' f0 f1 f3 d0 d1 y3 hsz5 hrw5 HS4 HN3 HV HEs he6 g1 g2 g3 g4 hdr
        go_wp2
        go_roundg (gk - 1)
        case measure => omega
        case rel => exact ⟨k + 1, by omega, by go_num, HS9⟩
end Go.Proofs.YtcamdnfhnianbaaGreatDoor

/-
  Plain: where a line's end is found by looking for one byte. No condition.
-/
import Derived.Test.YtlkbfehdiopkbaaGreatDoorWireSet2
namespace Go.Proofs.YtlkbfehdiopkbaaGreatDoor
set_option linter.unusedVariables false
set_option linter.unusedSimpArgs false

theorem ib_at {c : UInt8} {a : List UInt8} (h : c ∉ a) (b : List UInt8) : Lib.indexByte (a ++ c :: b) c = a.length := by
  induction a with
  | nil => simp [Lib.indexByte]
  | cons x a ih =>
    have hx : (x == c) = false := by
      rw [beq_eq_false_iff_ne]
      exact fun e => h (by simp [e])
    have ih' := ih (fun hm => h (by simp [hm]))
    rw [List.cons_append]
    unfold Lib.indexByte
    rw [ih', hx]
    simp only [Bool.false_eq_true, if_false]
    rw [if_neg (by rw [beq_iff_eq]; omega)]
    simp
theorem ib_no {c : UInt8} {l : List UInt8} (h : c ∉ l) : Lib.indexByte l c = -1 := by
  induction l with
  | nil => rfl
  | cons x l ih =>
    have hx : (x == c) = false := by
      rw [beq_eq_false_iff_ne]
      exact fun e => h (by simp [e])
    unfold Lib.indexByte
    rw [ih (fun hm => h (by simp [hm])), hx]
    rfl
/-- what a line's reading comes to. -/
inductive LineK (long broken : Int) (s : List UInt8) : Prop where
  | more (h : s.length < 1026) (hi : Lib.indexByte s 10 = -1) (e : lineS long broken s = .error (-1))
  | long (h : 1026 ≤ s.length) (hi : Lib.indexByte (s.take 1026) 10 = -1) (e : lineS long broken s = .error long)
  | empty (b : List UInt8) (hs : s = 10 :: b) (e : lineS long broken s = .error broken)
  | broken (a b : List UInt8) (hs : s = a ++ 10 :: b) (h0 : 0 < a.length) (ha : a.length < 1026) (hn : (10 : UInt8) ∉ a) (hi : Lib.indexByte a 13 ≠ (a.length : Int) - 1) (e : lineS long broken s = .error broken)
  | ok (l b : List UInt8) (hs : s = l ++ 13 :: 10 :: b) (ha : l.length ≤ 1024) (hn : (10 : UInt8) ∉ l) (hc : (13 : UInt8) ∉ l) (e : lineS long broken s = .ok (l, b))
theorem lineK (long broken : Int) (s : List UInt8) : LineK long broken s := by
  rcases hc : cutS [10] s with _ | ⟨a, b⟩
  · have hno := cut1_none hc
    by_cases h : 1026 ≤ s.length
    · exact .long h (ib_no fun hm => hno (List.mem_of_mem_take hm)) (by unfold lineS; rw [hc]; simp only; rw [if_pos h])
    · exact .more (by omega) (ib_no hno) (by unfold lineS; rw [hc]; simp only; rw [if_neg h])
  · obtain ⟨rfl, ha⟩ := cut1_some hc
    by_cases h : 1026 ≤ a.length
    · refine .long (by rw [List.length_append]; omega) (ib_no fun hm => ha ?_) (by unfold lineS; rw [hc]; simp only; rw [if_pos h])
      rw [List.take_append_of_le_length h] at hm
      exact List.mem_of_mem_take hm
    · by_cases hE : endsCR a = true
      · obtain ⟨q, rfl, hq⟩ := (endsCR_iff a).1 hE
        have hl : q.length ≤ 1024 := by simp at h; omega
        refine .ok q b (by simp) hl (fun hm => ha (by simp [hm])) hq ?_
        have := lineS_mk long broken b hq (fun hm => ha (by simp [hm])) hl
        rw [← this]
        simp
      · have e : lineS long broken (a ++ 10 :: b) = .error broken := by
          unfold lineS; rw [hc]; simp only; rw [if_neg h, if_neg hE]
        rcases a with _ | ⟨x, a⟩
        · exact .empty b rfl e
        · refine .broken (x :: a) b rfl (by simp) (by omega) ha (fun hi => hE ?_) e
          have hlt : 0 < (x :: a).length := by simp
          obtain ⟨h1, h2⟩ := Lib.indexByte_some (l := x :: a) (c := 13) (o := (x :: a).length - 1) (by rw [hi]; omega)
          refine (endsCR_iff _).2 ⟨(x :: a).dropLast, ?_, fun hm => ?_⟩
          · have hne : x :: a ≠ [] := by simp
            have h3 := List.dropLast_concat_getLast hne
            rw [List.getLast_eq_getElem] at h3
            rw [List.getElem?_eq_getElem (by omega)] at h1
            injection h1 with h1
            rw [h1] at h3
            exact h3.symm
          · obtain ⟨k, hk⟩ := List.mem_iff_getElem?.1 hm
            have hkl := (List.getElem?_eq_some_iff.1 hk).1
            rw [List.length_dropLast] at hkl
            rw [List.getElem?_dropLast, if_pos (by omega)] at hk
            exact h2 k hkl hk
theorem ib_end {q : List UInt8} (h : (13 : UInt8) ∉ q) : Lib.indexByte (q ++ [13]) 13 = q.length := ib_at h []
end Go.Proofs.YtlkbfehdiopkbaaGreatDoor

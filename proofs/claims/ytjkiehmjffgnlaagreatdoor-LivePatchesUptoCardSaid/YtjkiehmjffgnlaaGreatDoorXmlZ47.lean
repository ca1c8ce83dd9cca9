import Derived.Lib.Hide
namespace Go.Proofs.YtjkiehmjffgnlaaGreatDoor
set_option linter.unusedVariables false
set_option linter.unusedSimpArgs false
section
variable {α : Type}
structure LeOk (le : α → α → Bool) : Prop where
  total : ∀ a b, le a b = true ∨ le b a = true
  trans : ∀ a b c, le a b = true → le b c = true → le a c = true
def eqv (le : α → α → Bool) (x y : α) : Bool := le x y && le y x
def Stab (le : α → α → Bool) (d d' : List α) : Prop := d'.length = d.length ∧ ∀ x, d'.filter (eqv le x) = d.filter (eqv le x)
def Srt (le : α → α → Bool) (d : List α) : Prop := d.Pairwise fun a b => le a b = true
variable {le : α → α → Bool}
theorem LeOk.refl (h : LeOk le) (a : α) : le a a = true := (h.total a a).elim id id
theorem LeOk.of_not (h : LeOk le) {a b : α} (hn : le a b = false) : le b a = true := (h.total a b).elim (fun e => by rw [hn] at e; cases e) id
theorem eqv_self (h : LeOk le) (a : α) : eqv le a a = true := by unfold eqv; rw [h.refl]; rfl
theorem Stab.refl (d : List α) : Stab le d d := ⟨rfl, fun _ => rfl⟩
theorem Stab.trans {a b c : List α} (h1 : Stab le a b) (h2 : Stab le b c) : Stab le a c := ⟨h2.1.trans h1.1, fun x => (h2.2 x).trans (h1.2 x)⟩
theorem Stab.symm {a b : List α} (h : Stab le a b) : Stab le b a := ⟨h.1.symm, fun x => (h.2 x).symm⟩
theorem Stab.app {a b c d : List α} (h1 : Stab le a b) (h2 : Stab le c d) : Stab le (a ++ c) (b ++ d) :=
  ⟨by rw [List.length_append, List.length_append, h1.1, h2.1], fun x => by rw [List.filter_append, List.filter_append, h1.2, h2.2]⟩
theorem Stab.mem (hl : LeOk le) {a b : List α} (h : Stab le a b) {x : α} : x ∈ b ↔ x ∈ a := by
  have e := h.2 x
  have hx := eqv_self hl x
  constructor
  · intro hm
    have : x ∈ b.filter (eqv le x) := List.mem_filter.2 ⟨hm, hx⟩
    rw [e] at this
    exact (List.mem_filter.1 this).1
  · intro hm
    have : x ∈ a.filter (eqv le x) := List.mem_filter.2 ⟨hm, hx⟩
    rw [← e] at this
    exact (List.mem_filter.1 this).1
/-- those that stand behind come ahead, where each of them is less than each of those ahead. -/
theorem Stab.exch (hl : LeOk le) {X Y : List α} (h : ∀ x ∈ X, ∀ y ∈ Y, le x y = false) : Stab le (X ++ Y) (Y ++ X) := by
  refine ⟨by rw [List.length_append, List.length_append, Nat.add_comm], fun z => ?_⟩
  rw [List.filter_append, List.filter_append]
  by_cases hx : X.filter (eqv le z) = []
  · rw [hx, List.nil_append, List.append_nil]
  by_cases hy : Y.filter (eqv le z) = []
  · rw [hy, List.nil_append, List.append_nil]
  exfalso
  obtain ⟨x, hx⟩ := List.exists_mem_of_ne_nil _ hx
  obtain ⟨y, hy⟩ := List.exists_mem_of_ne_nil _ hy
  rw [List.mem_filter] at hx hy
  have h1 := hx.2; have h2 := hy.2
  unfold eqv at h1 h2
  rw [Bool.and_eq_true] at h1 h2
  have := h x hx.1 y hy.1
  rw [hl.trans x z y h1.2 h2.1] at this
  cases this
theorem srt_unique (hl : LeOk le) : ∀ {a b : List α}, Srt le a → Srt le b → Stab le a b → a = b
  | [], b, _, _, h => by have := h.1; cases b with | nil => rfl | cons => simp at this
  | x :: a, [], _, _, h => by have := h.1; simp at this
  | x :: a, y :: b, ha, hb, h => by
    have hxa := List.pairwise_cons.1 ha
    have hyb := List.pairwise_cons.1 hb
    have hx : x ∈ y :: b := (h.mem hl).2 (List.mem_cons_self ..)
    have hy : y ∈ x :: a := (h.mem hl).1 (List.mem_cons_self ..)
    have hxy : le x y = true := by
      rcases List.mem_cons.1 hy with rfl | hy
      · exact hl.refl _
      · exact hxa.1 y hy
    have hyx : le y x = true := by
      rcases List.mem_cons.1 hx with rfl | hx
      · exact hl.refl _
      · exact hyb.1 x hx
    have e := h.2 x
    rw [List.filter_cons, List.filter_cons, if_pos (by unfold eqv; rw [hxy, hyx]; rfl), if_pos (eqv_self hl x)] at e
    injection e with e1 e2
    subst e1
    congr 1
    refine srt_unique hl hxa.2 hyb.2 ⟨by have := h.1; simpa using this, fun z => ?_⟩
    have e := h.2 z
    rw [List.filter_cons, List.filter_cons] at e
    split at e
    · injection e
    · exact e
theorem Srt.app {a b : List α} (ha : Srt le a) (hb : Srt le b) (h : ∀ x ∈ a, ∀ y ∈ b, le x y = true) : Srt le (a ++ b) := List.pairwise_append.2 ⟨ha, hb, h⟩
theorem Srt.parts {a b : List α} (h : Srt le (a ++ b)) : Srt le a ∧ Srt le b ∧ ∀ x ∈ a, ∀ y ∈ b, le x y = true := List.pairwise_append.1 h
theorem merge_turn (hl : LeOk le) {A1 X Y B2 M1 M2 : List α} (hA : Srt le (A1 ++ X)) (hB : Srt le (Y ++ B2)) (h1 : ∀ x ∈ X, ∀ y ∈ Y, le x y = false) (h2 : ∀ x ∈ A1, ∀ y ∈ B2, le x y = true)
    (s1 : Srt le M1) (t1 : Stab le (A1 ++ Y) M1) (s2 : Srt le M2) (t2 : Stab le (X ++ B2) M2) : Srt le (M1 ++ M2) ∧ Stab le ((A1 ++ X) ++ (Y ++ B2)) (M1 ++ M2) := by
  obtain ⟨-, -, a3⟩ := hA.parts
  obtain ⟨-, -, b3⟩ := hB.parts
  refine ⟨s1.app s2 fun x hx y hy => ?_, ?_⟩
  · rcases List.mem_append.1 ((t1.mem hl).1 hx) with hx | hx <;> rcases List.mem_append.1 ((t2.mem hl).1 hy) with hy | hy
    · exact a3 x hx y hy
    · exact h2 x hx y hy
    · exact hl.of_not (h1 y hy x hx)
    · exact b3 x hx y hy
  · refine Stab.trans ?_ (t1.app t2)
    have e1 : (A1 ++ X) ++ (Y ++ B2) = A1 ++ ((X ++ Y) ++ B2) := by simp
    have e2 : (A1 ++ Y) ++ (X ++ B2) = A1 ++ ((Y ++ X) ++ B2) := by simp
    rw [e1, e2]
    exact (Stab.refl A1).app ((Stab.exch hl h1).app (Stab.refl B2))

theorem insert_at (hl : LeOk le) {M1 M2 : List α} {x : α} (sM : Srt le (M1 ++ M2)) (h1 : ∀ y ∈ M1, le y x = true) (h2 : ∀ y ∈ M2, le y x = false) : Srt le (M1 ++ (x :: M2)) ∧ Stab le ((M1 ++ M2) ++ [x]) (M1 ++ (x :: M2)) := by
  obtain ⟨s1, s2, s3⟩ := sM.parts
  refine ⟨s1.app (List.pairwise_cons.2 ⟨fun y hy => hl.of_not (h2 y hy), s2⟩) fun a ha b hb => ?_, ?_⟩
  · rcases List.mem_cons.1 hb with rfl | hb
    · exact h1 a ha
    · exact s3 a ha b hb
  · rw [List.append_assoc]
    exact (Stab.refl M1).app (Stab.exch hl fun y hy z hz => by rw [List.mem_singleton.1 hz]; exact h2 y hy)
theorem srt_below (hl : LeOk le) {M1 : List α} {y x : α} (s : Srt le (M1 ++ [y])) (h : le y x = true) : ∀ z ∈ M1 ++ [y], le z x = true := by
  intro z hz
  rcases List.mem_append.1 hz with hz | hz
  · exact hl.trans _ _ _ (s.parts.2.2 z hz y (List.mem_singleton.2 rfl)) h
  · rw [List.mem_singleton.1 hz]; exact h
variable [Inhabited α]
theorem at_A (P A R : List α) (c : Nat) (h1 : P.length ≤ c) (h2 : c < P.length + A.length) : (P ++ (A ++ R))[c]! = A[c - P.length]! := by
  rw [List.getElem!_eq_getElem?_getD, List.getElem!_eq_getElem?_getD, List.getElem?_append_right h1, List.getElem?_append_left (by omega)]
theorem at_R (P A R : List α) (c : Nat) (h1 : P.length + A.length ≤ c) : (P ++ (A ++ R))[c]! = R[c - P.length - A.length]! := by
  rw [List.getElem!_eq_getElem?_getD, List.getElem!_eq_getElem?_getD, List.getElem?_append_right (by omega), List.getElem?_append_right (by omega)]
theorem bang (l : List α) (i : Nat) (h : i < l.length) : l[i]! = l[i] := getElem!_pos l i h
theorem Srt.le_at (hl : LeOk le) {l : List α} (h : Srt le l) {i j : Nat} (hij : i ≤ j) (hj : j < l.length) : le l[i]! l[j]! = true := by
  rw [bang l i (by omega), bang l j hj]
  rcases Nat.lt_or_eq_of_le hij with hlt | rfl
  · exact List.pairwise_iff_getElem.1 h i j (by omega) hj hlt
  · exact hl.refl _
theorem mem_drop_at {l : List α} {k : Nat} {x : α} (h : x ∈ l.drop k) : ∃ i, k ≤ i ∧ i < l.length ∧ l[i]! = x := by
  obtain ⟨i, hi, rfl⟩ := List.mem_iff_getElem.1 h
  rw [List.length_drop] at hi
  refine ⟨k + i, by omega, by omega, ?_⟩
  rw [bang l _ (by omega), List.getElem_drop]
theorem mem_take_at {l : List α} {k : Nat} {x : α} (h : x ∈ l.take k) : ∃ i, i < k ∧ i < l.length ∧ l[i]! = x := by
  obtain ⟨i, hi, rfl⟩ := List.mem_iff_getElem.1 h
  rw [List.length_take] at hi
  refine ⟨i, by omega, by omega, ?_⟩
  rw [bang l _ (by omega), List.getElem_take]
theorem sym_parts (hl : LeOk le) {P A B R : List α} {a m b start : Nat} (ha : P.length = a) (hA : A.length = m - a) (hB : B.length = b - m) (ham : a < m) (hmb : m < b) (sA : Srt le A) (sB : Srt le B)
    (hs1 : (if m > (a + b) / 2 then (a + b) / 2 + m - b else a) ≤ start) (hs2 : start ≤ (if m > (a + b) / 2 then (a + b) / 2 else m))
    (lo : ∀ c, (if m > (a + b) / 2 then (a + b) / 2 + m - b else a) ≤ c → c < start → le (P ++ (A ++ (B ++ R)))[c]! (P ++ (A ++ (B ++ R)))[(a + b) / 2 + m - 1 - c]! = true)
    (hi : ∀ c, start ≤ c → c < (if m > (a + b) / 2 then (a + b) / 2 else m) → le (P ++ (A ++ (B ++ R)))[c]! (P ++ (A ++ (B ++ R)))[(a + b) / 2 + m - 1 - c]! = false) :
    ∃ A1 X Y B2, A = A1 ++ X ∧ B = Y ++ B2 ∧ A1.length = start - a ∧ X.length = m - start ∧ Y.length = (a + b) / 2 - start ∧ B2.length = b - ((a + b) / 2 + m - start) ∧ a ≤ start ∧ start ≤ m ∧ start ≤ (a + b) / 2 ∧ m ≤ (a + b) / 2 + m - start ∧ (a + b) / 2 + m - start ≤ b ∧ (∀ x ∈ X, ∀ y ∈ Y, le x y = false) ∧ (∀ x ∈ A1, ∀ y ∈ B2, le x y = true) := by
  obtain ⟨mid, hmid⟩ : ∃ mid, mid = (a + b) / 2 := ⟨_, rfl⟩
  rw [← hmid] at hs1 hs2 lo hi ⊢
  have hm1 : a < mid := by omega
  have hm2 : mid < b := by omega
  have b1 : a ≤ start := by split at hs1 <;> omega
  have b2 : start ≤ m := by split at hs2 <;> omega
  have b3 : start ≤ mid := by split at hs2 <;> omega
  have b4 : mid + m - start ≤ b := by split at hs1 <;> omega
  have gA : ∀ c, a ≤ c → c < m → (P ++ (A ++ (B ++ R)))[c]! = A[c - a]! := fun c h1 h2 => by rw [at_A _ _ _ _ (by omega) (by omega), ha]
  have gB : ∀ c, m ≤ c → c < b → (P ++ (A ++ (B ++ R)))[c]! = B[c - m]! := fun c h1 h2 => by
    rw [at_R _ _ _ _ (by omega), List.getElem!_eq_getElem?_getD, List.getElem?_append_left (by omega), List.getElem!_eq_getElem?_getD]
    congr 2
    omega
  refine ⟨A.take (start - a), A.drop (start - a), B.take (mid - start), B.drop (mid - start), (List.take_append_drop ..).symm, (List.take_append_drop ..).symm, by rw [List.length_take]; omega, by rw [List.length_drop]; omega, by rw [List.length_take]; omega, by rw [List.length_drop]; omega, b1, b2, b3, by omega, b4, ?_, ?_⟩
  · intro x hx y hy
    obtain ⟨i, hi1, hi2, rfl⟩ := mem_drop_at hx
    obtain ⟨j, hj1, hj2, rfl⟩ := mem_take_at hy
    have h0 := hi start (Nat.le_refl _) (by split <;> omega)
    rw [gA start b1 (by omega), gB _ (by omega) (by omega)] at h0
    cases hxy : le A[i]! B[j]! with
    | false => rfl
    | true =>
      have k1 := sA.le_at hl hi1 (by omega)
      have k2 := sB.le_at hl (show j ≤ mid + m - 1 - start - m by omega) (by omega)
      rw [hl.trans _ _ _ (hl.trans _ _ _ k1 hxy) k2] at h0
      cases h0
  · intro x hx y hy
    obtain ⟨i, hi1, hi2, rfl⟩ := mem_take_at hx
    obtain ⟨j, hj1, hj2, rfl⟩ := mem_drop_at hy
    have h0 := lo (start - 1) (by split at hs1 <;> split <;> omega) (by omega)
    rw [gA _ (by omega) (by omega), gB _ (by omega) (by omega)] at h0
    have k1 := sA.le_at hl (show i ≤ start - 1 - a by omega) (by omega)
    have k2 := sB.le_at hl (show mid + m - 1 - (start - 1) - m ≤ j by omega) hj2
    exact hl.trans _ _ _ (hl.trans _ _ _ k1 h0) k2
theorem one_left (hl : LeOk le) {x : α} {B : List α} {k : Nat} (sB : Srt le B) (hk : k ≤ B.length) (lo : ∀ c, c < k → le x B[c]! = false) (hi : ∀ c, k ≤ c → c < B.length → le x B[c]! = true) : Srt le (B.take k ++ ([x] ++ B.drop k)) ∧ Stab le ([x] ++ B) (B.take k ++ ([x] ++ B.drop k)) := by
  have sB' : Srt le (B.take k ++ B.drop k) := by rw [List.take_append_drop]; exact sB
  obtain ⟨s1, s2, -⟩ := sB'.parts
  have h := merge_turn hl (A1 := []) (X := [x]) (Y := B.take k) (B2 := B.drop k) (M1 := B.take k) (M2 := [x] ++ B.drop k) (List.pairwise_singleton _ _) sB'
    (fun y hy z hz => by rw [List.mem_singleton.1 hy]; obtain ⟨i, h1, h2, rfl⟩ := mem_take_at hz; exact lo i h1) (fun y hy => by cases hy)
    s1 (Stab.refl _) (Srt.app (show Srt le [x] from List.pairwise_singleton _ _) s2 fun y hy z hz => by rw [List.mem_singleton.1 hy]; obtain ⟨i, h1, h2, rfl⟩ := mem_drop_at hz; exact hi i h1 h2) (Stab.refl _)
  rw [List.nil_append, List.take_append_drop] at h
  exact h
theorem one_right (hl : LeOk le) {y : α} {A : List α} {k : Nat} (sA : Srt le A) (hk : k ≤ A.length) (lo : ∀ c, c < k → le A[c]! y = true) (hi : ∀ c, k ≤ c → c < A.length → le A[c]! y = false) : Srt le (A.take k ++ ([y] ++ A.drop k)) ∧ Stab le (A ++ [y]) (A.take k ++ ([y] ++ A.drop k)) := by
  have sA' : Srt le (A.take k ++ A.drop k) := by rw [List.take_append_drop]; exact sA
  obtain ⟨s1, s2, -⟩ := sA'.parts
  have h := merge_turn hl (A1 := A.take k) (X := A.drop k) (Y := [y]) (B2 := []) (M1 := A.take k ++ [y]) (M2 := A.drop k) sA' (List.pairwise_singleton _ _)
    (fun z hz x hx => by rw [List.mem_singleton.1 hx]; obtain ⟨i, h1, h2, rfl⟩ := mem_drop_at hz; exact hi i h1 h2) (fun z _ x hx => by cases hx)
    (s1.app (List.pairwise_singleton _ _) fun z hz x hx => by rw [List.mem_singleton.1 hx]; obtain ⟨i, h1, h2, rfl⟩ := mem_take_at hz; exact lo i h1) (Stab.refl _) s2 (by rw [List.append_nil]; exact Stab.refl _)
  rw [List.take_append_drop, List.append_nil, List.append_assoc] at h
  exact h
end
end Go.Proofs.YtjkiehmjffgnlaaGreatDoor

import Derived.Test.YtjkiehmjffgnlaaGreatDoorXmlZ4
import Derived.Test.YtjkiehmjffgnlaaGreatDoorXmlZ5
namespace Go.Proofs.YtjkiehmjffgnlaaGreatDoor
set_option linter.unusedVariables false
set_option linter.unusedSimpArgs false

theorem cutB_at (c : UInt8) : ∀ (a b : List UInt8), c ∉ a → cutS [c] (a ++ c :: b) = some (a, b)
  | [], b, _ => by
    show (if [c].isPrefixOf (c :: b) = true then some ([], (c :: b).drop 1) else _) = _
    rw [if_pos (by simp [List.isPrefixOf])]
    rfl
  | x :: a, b, h => by
    have hx : (c == x) = false := by rw [beq_eq_false_iff_ne]; intro e; exact h (by rw [e]; simp)
    show (if [c].isPrefixOf (x :: (a ++ c :: b)) = true then _ else (cutS [c] (a ++ c :: b)).map fun p => (x :: p.1, p.2)) = _
    rw [if_neg (by simp [List.isPrefixOf, hx]), cutB_at c a b (fun hm => h (by simp [hm]))]
    rfl
theorem cut_none_of {c : UInt8} {w s : List UInt8} (hc : c ∈ w) (hs : c ∉ s) : cutS w s = none := by
  rcases h : cutS w s with _ | ⟨a, b⟩
  · rfl
  · exact absurd (by rw [cut_some h]; simp [hc]) hs
theorem lines_id : ∀ (s : List UInt8), (13 : UInt8) ∉ s → linesX s = s
  | [], _ => rfl
  | [c], h => by
    unfold linesX
    rw [if_neg (fun e => h (by simp [e]))]
  | c :: d :: r, h => by
    unfold linesX
    rw [if_neg (fun e => h (by simp [e])), lines_id (d :: r) (fun hm => h (by simp at hm ⊢; exact .inr hm))]
theorem addText_new {ks : List NodeT} {t : List UInt8} (ht : t ≠ []) (hk : ∀ n, ks.getLast? = some n → n.name ≠ []) : addText ks t = ks ++ [textN t] := by
  unfold addText
  rw [if_neg ht]
  split
  · rename_i x s a k hl
    exact absurd rfl (hk _ hl)
  · rfl
theorem addText_text (l : List NodeT) (x s : List UInt8) (asz : List AttrT) (k : List NodeT) {b : List UInt8} (hb : b ≠ []) : addText (l ++ [.mk x s [] asz k]) b = l ++ [.mk (x ++ b) s [] asz k] := by
  unfold addText
  rw [if_neg hb, List.getLast?_concat]
  simp only
  rw [List.dropLast_concat]
theorem addText_add (ks : List NodeT) (a b : List UInt8) : addText (addText ks a) b = addText ks (a ++ b) := by
  by_cases ha : a = []
  · subst ha; rfl
  by_cases hb : b = []
  · subst hb
    rw [List.append_nil]
    generalize addText ks a = q
    unfold addText
    rw [if_pos rfl]
  · have hab : a ++ b ≠ [] := by simp [ha]
    by_cases hk : ∀ n, ks.getLast? = some n → n.name ≠ []
    · rw [addText_new ha hk, addText_new hab hk]
      exact addText_text ks a [] [] [] hb
    · obtain ⟨n, hn, hnn⟩ : ∃ n, ks.getLast? = some n ∧ n.name = [] := by
        simp only [Classical.not_forall, Classical.not_not] at hk
        obtain ⟨n, h1, h2⟩ := hk
        exact ⟨n, h1, h2⟩
      obtain ⟨x, s, m, asz, k⟩ := n
      obtain rfl : m = [] := hnn
      obtain ⟨l, rfl⟩ := List.getLast?_eq_some_iff.1 hn
      rw [addText_text l x s asz k ha, addText_text l (x ++ a) s asz k hb, addText_text l x s asz k hab, List.append_assoc]
def rawT (c : UInt8) : Bool := !decide (c = 38 ∨ c = 60 ∨ c = 62 ∨ c = 13)
def rawV (c : UInt8) : Bool := !decide (c = 38 ∨ c = 60 ∨ c = 34 ∨ c = 9 ∨ c = 10 ∨ c = 13)
theorem escT_raw {c : UInt8} (h : rawT c = true) : escT c = [c] := by
  unfold rawT at h
  simp only [Bool.not_eq_true', decide_eq_false_iff_not, not_or] at h
  unfold escT
  rw [if_neg h.1, if_neg h.2.1, if_neg h.2.2.1, if_neg h.2.2.2]
theorem escV_raw {c : UInt8} (h : rawV c = true) : escV c = [c] := by
  unfold rawV at h
  simp only [Bool.not_eq_true', decide_eq_false_iff_not, not_or] at h
  unfold escV
  rw [if_neg h.1, if_neg h.2.1, if_neg h.2.2.1, if_neg h.2.2.2.1, if_neg h.2.2.2.2.1, if_neg h.2.2.2.2.2]
theorem flat_raw {f : UInt8 → List UInt8} {p : UInt8 → Bool} (hf : ∀ c, p c = true → f c = [c]) : ∀ u : List UInt8, (∀ c ∈ u, p c = true) → u.flatMap f = u
  | [], _ => rfl
  | c :: u, h => by
    rw [List.flatMap_cons, hf c (h c (by simp)), flat_raw hf u fun b hb => h b (by simp [hb])]
    rfl
theorem takeW_all (p : UInt8 → Bool) (s : List UInt8) : ∀ c ∈ s.takeWhile p, p c = true := by
  induction s with
  | nil => intro c h; simp at h
  | cons x s ih =>
    intro c h
    rw [List.takeWhile_cons] at h
    split at h
    · rename_i hx
      rcases List.mem_cons.1 h with rfl | h
      · exact hx
      · exact ih c h
    · simp at h
theorem dropW_head (p : UInt8 → Bool) (s : List UInt8) : s.dropWhile p = [] ∨ ∃ c q, s.dropWhile p = c :: q ∧ p c = false := by
  induction s with
  | nil => exact .inl rfl
  | cons x s ih =>
    rw [List.dropWhile_cons]
    by_cases hx : p x = true
    · rw [if_pos hx]; exact ih
    · rw [if_neg hx]
      exact .inr ⟨x, s, rfl, by simpa using hx⟩
/-- a run of bytes that are no stop, ahead of one. -/
theorem run_take {p : UInt8 → Bool} {u X : List UInt8} (hu : ∀ c ∈ u, p c = true) (hX : ∀ c q, X = c :: q → p c = false) : (u ++ X).takeWhile p = u ∧ (u ++ X).dropWhile p = X := by
  induction u with
  | nil =>
    rcases X with _ | ⟨c, q⟩
    · exact ⟨rfl, rfl⟩
    · have := hX c q rfl
      rw [List.nil_append, List.takeWhile_cons, List.dropWhile_cons, this]
      exact ⟨rfl, rfl⟩
  | cons x u ih =>
    obtain ⟨h1, h2⟩ := ih (fun c hc => hu c (by simp [hc]))
    rw [List.cons_append, List.takeWhile_cons, List.dropWhile_cons, if_pos (hu x (by simp)), if_pos (hu x (by simp)), h1, h2]
    exact ⟨rfl, rfl⟩
theorem refX_at {w t r : List UInt8} (h : (59 : UInt8) ∉ w) (hw : refW w = some t) : refX (w ++ 59 :: r) = some (t, r) := by
  unfold refX
  rw [cutB_at 59 w r h, thenX_mk, hw]
theorem ref_escT {c : UInt8} (h : rawT c = false) (r : List UInt8) : ∃ q, escT c ++ r = 38 :: q ∧ refX q = some ([c], r) := by
  unfold rawT at h
  simp only [Bool.not_eq_false', decide_eq_true_eq] at h
  rcases h with rfl | rfl | rfl | rfl
  · exact ⟨[97, 109, 112] ++ 59 :: r, rfl, refX_at (by decide) (by decide +kernel)⟩
  · exact ⟨[108, 116] ++ 59 :: r, rfl, refX_at (by decide) (by decide +kernel)⟩
  · exact ⟨[103, 116] ++ 59 :: r, rfl, refX_at (by decide) (by decide +kernel)⟩
  · exact ⟨[35, 49, 51] ++ 59 :: r, rfl, refX_at (by decide) (by decide +kernel)⟩
theorem ref_escV {c : UInt8} (h : rawV c = false) (r : List UInt8) : ∃ q, escV c ++ r = 38 :: q ∧ refX q = some ([c], r) := by
  unfold rawV at h
  simp only [Bool.not_eq_false', decide_eq_true_eq] at h
  rcases h with rfl | rfl | rfl | rfl | rfl | rfl
  · exact ⟨[97, 109, 112] ++ 59 :: r, rfl, refX_at (by decide) (by decide +kernel)⟩
  · exact ⟨[108, 116] ++ 59 :: r, rfl, refX_at (by decide) (by decide +kernel)⟩
  · exact ⟨[113, 117, 111, 116] ++ 59 :: r, rfl, refX_at (by decide) (by decide +kernel)⟩
  · exact ⟨[35, 57] ++ 59 :: r, rfl, refX_at (by decide) (by decide +kernel)⟩
  · exact ⟨[35, 49, 48] ++ 59 :: r, rfl, refX_at (by decide) (by decide +kernel)⟩
  · exact ⟨[35, 49, 51] ++ 59 :: r, rfl, refX_at (by decide) (by decide +kernel)⟩
theorem escV_len (c : UInt8) : 1 ≤ (escV c).length := by
  unfold escV
  repeat' split
  all_goals simp
theorem flat_len {f : UInt8 → List UInt8} (hf : ∀ c, 1 ≤ (f c).length) : ∀ v : List UInt8, v.length ≤ (v.flatMap f).length
  | [] => Nat.le_refl _
  | c :: v => by
    have := flat_len hf v
    have := hf c
    rw [List.flatMap_cons, List.length_append, List.length_cons]
    omega
theorem valIn_esc : ∀ (n : Nat) (v out : List UInt8) (f : Nat), v.length ≤ n → (v.flatMap escV).length < f → valIn f out (v.flatMap escV) = some (out ++ v)
  | n, v, out, 0, _, hf => absurd hf (Nat.not_lt_zero _)
  | n, v, out, f + 1, h, hf => by
    by_cases hv : v = []
    · subst hv
      rw [List.flatMap_nil]
      unfold valIn
      rw [if_pos rfl, List.append_nil]
    · have hne : v.flatMap escV ≠ [] := by
        intro e
        have := flat_len escV_len v
        rw [e] at this
        exact hv (List.eq_nil_of_length_eq_zero (by simpa using this))
      have e : v = v.takeWhile rawV ++ v.dropWhile rawV := (List.takeWhile_append_dropWhile).symm
      have hall := takeW_all rawV v
      have hns : ∀ c : UInt8, rawV c = true → (!stopC c) = true ∧ c ≠ 13 ∧ flatC c = c := fun c hc => by
        unfold rawV at hc
        simp only [Bool.not_eq_true', decide_eq_false_iff_not, not_or] at hc
        refine ⟨by simp [stopC, hc.1, hc.2.1], hc.2.2.2.2.2, by simp [flatC, hc.2.2.2.1, hc.2.2.2.2.1]⟩
      have hl13 : (13 : UInt8) ∉ v.takeWhile rawV := fun hm => (hns _ (hall _ hm)).2.1 rfl
      have hmap : (linesX (v.takeWhile rawV)).map flatC = v.takeWhile rawV := by
        rw [lines_id _ hl13]
        conv => rhs; rw [← List.map_id (v.takeWhile rawV)]
        exact List.map_congr_left fun c hc => (hns c (hall c hc)).2.2
      unfold valIn
      rw [if_neg hne]
      rcases dropW_head rawV v with hd | ⟨c, q, hd, hc⟩
      · rw [hd, List.append_nil] at e
        have e2 : v.flatMap escV = v.takeWhile rawV := by
          conv => lhs; rw [e]
          exact flat_raw (fun c => escV_raw) _ hall
        rw [e2]
        obtain ⟨r1, r2⟩ := run_take (p := fun c => !stopC c) (u := v.takeWhile rawV) (X := []) (fun c hc => (hns c (hall c hc)).1) (fun c q h => by cases h)
        rw [List.append_nil] at r1 r2
        rw [r2]
        simp only
        rw [hmap, ← e]
      · rw [hd] at e
        obtain ⟨y, hy, hr⟩ := ref_escV hc (q.flatMap escV)
        have e2 : v.flatMap escV = v.takeWhile rawV ++ 38 :: y := by
          conv => lhs; rw [e]
          rw [List.flatMap_append, flat_raw (fun c => escV_raw) _ hall, List.flatMap_cons, hy]
        rw [e2]
        obtain ⟨r1, r2⟩ := run_take (p := fun c => !stopC c) (u := v.takeWhile rawV) (X := 38 :: y) (fun c hc => (hns c (hall c hc)).1) (fun c q h => by injection h with h _; subst h; decide)
        rw [r1, r2]
        simp only
        rw [if_pos trivial, hr]
        simp only
        have hlv : q.length < v.length := by
          have := congrArg List.length e
          rw [List.length_append, List.length_cons] at this
          omega
        have hlf : (q.flatMap escV).length < f := by
          have h1 := (refX_ok hr).1
          rw [e2, List.length_append, List.length_cons] at hf
          omega
        cases n with
        | zero => omega
        | succ n =>
          rw [valIn_esc n q _ f (by omega) hlf, hmap]
          conv => rhs; rw [e]
          simp
theorem escV_no (v : List UInt8) : (34 : UInt8) ∉ v.flatMap escV := by
  intro h
  obtain ⟨c, -, hc⟩ := List.mem_flatMap.1 h
  by_cases hr : rawV c = true
  · rw [escV_raw hr] at hc
    rw [← List.mem_singleton.1 hc] at hr
    revert hr; decide
  · have := (u8_allX (fun c => rawV c || !(escV c).contains 34) (by decide +kernel) c)
    simp [hr] at this
    exact this hc
theorem value_read (v r : List UInt8) : valueX (34 :: (v.flatMap escV ++ 34 :: r)) = some (v, r) := by
  unfold valueX
  have h1 : eatX [39] (34 :: (v.flatMap escV ++ 34 :: r)) = none := by
    unfold eatX
    rw [if_neg]
    simp [List.isPrefixOf]
  have h2 : eatX [34] (34 :: (v.flatMap escV ++ 34 :: r)) = some ((), v.flatMap escV ++ 34 :: r) := eatX_app [34] _
  rw [h1]
  simp only
  rw [h2, thenX_mk, cutB_at 34 _ r (escV_no v), thenX_mk, valIn_esc v.length v [] _ (Nat.le_refl _) (Nat.lt_succ_self _)]
  rfl
theorem nameOk_all {n : List UInt8} (h : nameOk n = true) : ∀ c ∈ n, othC c = true := by
  cases n with
  | nil => cases h
  | cons x n =>
    unfold nameOk at h
    rw [Bool.and_eq_true, List.all_eq_true] at h
    exact h.2
theorem name_read {n r : List UInt8} (h : nameOk n = true) (hr : ∀ c q, r = c :: q → othC c = false) : nameX (n ++ r) = some (n, r) := by
  obtain ⟨h1, h2⟩ := run_take (nameOk_all h) hr
  unfold nameX
  rw [h1, h2, if_pos h]
theorem qname_read {n r : List UInt8} (h : nameOk n = true) (hr : ∃ c q, r = c :: q ∧ othC c = false ∧ c ≠ 58) : qnameX (n ++ r) = some (([], n), r) := by
  obtain ⟨c, q, rfl, h1, h2⟩ := hr
  unfold qnameX
  rw [name_read h (fun c' q' e => by injection e with e _; rw [← e]; exact h1), thenX_mk]
  have : eatX [58] (c :: q) = none := by
    unfold eatX
    rw [if_neg]
    simp [List.isPrefixOf, Ne.symm h2]
  rw [this]
theorem name_head {n : List UInt8} (h : nameOk n = true) : ∃ c q, n = c :: q ∧ firC c = true := by
  cases n with
  | nil => cases h
  | cons x n =>
    unfold nameOk at h
    rw [Bool.and_eq_true] at h
    exact ⟨x, n, rfl, h.1⟩
theorem fir_no {c : UInt8} (h : firC c = true) : whC c = false ∧ c ≠ 62 ∧ c ≠ 47 ∧ c ≠ 60 ∧ c ≠ 33 ∧ c ≠ 63 ∧ c ≠ 38 := by
  have := u8_allX (fun c => !firC c || (!whC c && !decide (c = 62) && !decide (c = 47) && !decide (c = 60) && !decide (c = 33) && !decide (c = 63) && !decide (c = 38))) (by decide +kernel) c
  simp [h] at this
  exact ⟨this.1.1.1.1.1.1, this.1.1.1.1.1.2, this.1.1.1.1.2, this.1.1.1.2, this.1.1.2, this.1.2, this.2⟩
theorem xwhite_no {c : UInt8} (h : whC c = false) (q : List UInt8) : whiteX (c :: q) = c :: q := by
  unfold whiteX
  rw [List.dropWhile_cons, h]
  rfl
theorem attr_read {n v r : List UInt8} (h : nameOk n = true) (f : Nat) (seen : List (List UInt8)) (out : List AttrT) (sc : Scope) (hs : 58 :: n ∉ seen) :
    attrsX (f + 1) seen out sc (32 :: (n ++ ([61, 34] ++ (v.flatMap escV ++ (34 :: r))))) =
      if n = wXmlns then attrsX f ((58 :: n) :: seen) out (([], v) :: sc) r else attrsX f ((58 :: n) :: seen) (out ++ [⟨n, v⟩]) sc r := by
  obtain ⟨c, q, e, hc⟩ := name_head h
  obtain ⟨c1, c2, c3, -⟩ := fir_no hc
  have hw : whiteX (32 :: (n ++ ([61, 34] ++ (v.flatMap escV ++ (34 :: r))))) = n ++ ([61, 34] ++ (v.flatMap escV ++ (34 :: r))) := by
    unfold whiteX
    rw [List.dropWhile_cons, if_pos (by decide)]
    rw [e]
    exact xwhite_no c1 _
  have hq := qname_read (n := n) (r := [61, 34] ++ (v.flatMap escV ++ (34 :: r))) h ⟨61, _, rfl, by decide, by decide⟩
  rw [attr_step, hw, if_pos, hq, thenX_mk]
  · have w1 : whiteX ([61, 34] ++ (v.flatMap escV ++ (34 :: r))) = [61] ++ (34 :: (v.flatMap escV ++ (34 :: r))) := xwhite_no (by decide) _
    have w2 : whiteX (34 :: (v.flatMap escV ++ (34 :: r))) = 34 :: (v.flatMap escV ++ (34 :: r)) := xwhite_no (by decide) _
    rw [w1, eatX_app, thenX_mk, w2, value_read, thenX_mk]
    simp only [List.nil_append]
    rw [if_neg hs]
    by_cases hx : n = wXmlns
    · rw [if_pos ⟨trivial, hx⟩, if_pos hx]
    · rw [if_neg (fun hh => hx hh.2), if_neg hx, if_neg (by decide), if_neg (by simp)]
  · refine ⟨by simp, ?_, ?_⟩
    · rw [e]
      simp [List.isPrefixOf, Ne.symm c2]
    · rw [e]
      simp [List.isPrefixOf, Ne.symm c3]
theorem attrs_read : ∀ (asz : List AttrT) (names : List (List UInt8)) (seen : List (List UInt8)) (out : List AttrT) (sc : Scope) (r : List UInt8) (f : Nat), attrsOk names asz = true → (∀ n, 58 :: n ∈ seen → n = wXmlns ∨ n ∈ names) →
    (∃ c q, r = c :: q ∧ whC c = false) → asz.length < f → attrsX f seen out sc (asz.flatMap attrF ++ r) = some ((out ++ asz, sc), r)
  | asz, _, _, _, _, _, 0, _, _, _, hf => absurd hf (Nat.not_lt_zero _)
  | [], names, seen, out, sc, r, f + 1, _, _, hr, _ => by
    obtain ⟨c, q, rfl, hc⟩ := hr
    rw [attr_step, List.flatMap_nil, List.nil_append, xwhite_no hc, if_neg (by intro h; exact absurd h.1 (Nat.lt_irrefl _)), List.append_nil]
  | a :: asz, names, seen, out, sc, r, f + 1, h, hs, hr, hf => by
    obtain ⟨h1, h2, h3, h4, h5⟩ := attrsOk_cons h
    have e : (a :: asz).flatMap attrF ++ r = 32 :: (a.name ++ ([61, 34] ++ (a.value.flatMap escV ++ (34 :: (asz.flatMap attrF ++ r))))) := by
      rw [List.flatMap_cons]
      unfold attrF
      simp
    rw [e, attr_read (short_parts h1).1 f seen out sc (fun hm => by rcases hs _ hm with h | h; exact h2 h; exact h3 h), if_neg h2,
      attrs_read asz (a.name :: names) _ _ sc r f h5 (fun n hn => by
        rcases List.mem_cons.1 hn with hn | hn
        · injection hn with _ hn
          exact .inr (by rw [hn]; simp)
        · exact (hs n hn).imp id fun h => by simp [h]) hr (by simpa using hf)]
    simp
end Go.Proofs.YtjkiehmjffgnlaaGreatDoor
namespace Go.Proofs.YtjkiehmjffgnlaaGreatDoor
set_option linter.unusedVariables false
set_option linter.unusedSimpArgs false

def ltH (s : List UInt8) : Prop := ∃ q, s = 60 :: q
theorem plainH_raw {c : UInt8} (h : c ≠ 60) (q : List UInt8) : plainH (c :: q) := ⟨c, q, rfl, .inl h⟩
theorem hasEnd_raw {u : List UInt8} (h : (62 : UInt8) ∉ u) : hasEnd u = false := by
  unfold hasEnd
  rw [cut_none_of (c := 62) (by decide) h]
  rfl
theorem cont_ref {q t r : List UInt8} (h : refX q = some (t, r)) (sc : Scope) (ks : List NodeT) : contX sc ks (38 :: q) = contX sc (addText ks t) r := by
  obtain ⟨t1, t2, t3, t4⟩ := (plainH_raw (c := 38) (by decide) q).tests
  rw [contX_eq, if_neg (by rw [t1]; simp), if_neg t2, t3, t4]
  simp only
  rw [if_neg (by simp), if_pos (by simp), List.tail_cons, h, thenX_mk]
theorem cont_run {u X : List UInt8} (hu : ∀ c ∈ u, rawT c = true) (hne : u ≠ []) (hX : ∃ c q, X = c :: q ∧ stopC c = true) (sc : Scope) (ks : List NodeT) : contX sc ks (u ++ X) = contX sc (addText ks u) X := by
  have hraw : ∀ c : UInt8, rawT c = true → (!stopC c) = true ∧ c ≠ 13 ∧ c ≠ 62 ∧ c ≠ 60 ∧ c ≠ 38 := fun c hc => by
    unfold rawT at hc
    simp only [Bool.not_eq_true', decide_eq_false_iff_not, not_or] at hc
    exact ⟨by simp [stopC, hc.1, hc.2.1], hc.2.2.2, hc.2.2.1, hc.2.1, hc.1⟩
  obtain ⟨x, u', rfl⟩ := List.exists_cons_of_ne_nil hne
  obtain ⟨x1, -, -, x4, x5⟩ := hraw x (hu x (by simp))
  obtain ⟨c, q, rfl, hc⟩ := hX
  obtain ⟨t1, t2, t3, t4⟩ := (plainH_raw x4 (u' ++ c :: q)).tests
  obtain ⟨r1, r2⟩ := run_take (p := fun c => !stopC c) (u := x :: u') (X := c :: q) (fun c hc => (hraw c (hu c hc)).1) (fun c' q' e => by injection e with e _; rw [← e, hc]; rfl)
  rw [contX_eq, List.cons_append, if_neg (by rw [t1]; simp), if_neg t2, t3, t4]
  simp only
  rw [← List.cons_append, r1, r2, if_neg (by simp [x4]), if_neg (by simp [x5]), if_neg, lines_id _ (fun hm => (hraw _ (hu _ hm)).2.1 rfl)]
  rintro (h | h)
  · simp at h
  · rw [hasEnd_raw (fun hm => (hraw _ (hu _ hm)).2.2.1 rfl)] at h; cases h
theorem cont_text : ∀ (n : Nat) (t : List UInt8) (sc : Scope) (ks : List NodeT) (r : List UInt8), t.length ≤ n → ltH r → contX sc ks (t.flatMap escT ++ r) = contX sc (addText ks t) r
  | 0, t, sc, ks, r, h, _ => by
    have : t = [] := List.eq_nil_of_length_eq_zero (by omega)
    subst this
    rfl
  | n + 1, t, sc, ks, r, h, hr => by
    have e : t = t.takeWhile rawT ++ t.dropWhile rawT := (List.takeWhile_append_dropWhile).symm
    have hall := takeW_all rawT t
    have step : ∀ X : List UInt8, (∃ c q, X = c :: q ∧ stopC c = true) → contX sc ks (t.takeWhile rawT ++ X) = contX sc (addText ks (t.takeWhile rawT)) X := fun X hX => by
      by_cases hu : t.takeWhile rawT = []
      · rw [hu]; rfl
      · exact cont_run hall hu hX sc ks
    rcases dropW_head rawT t with hd | ⟨c, q, hd, hc⟩
    · rw [hd, List.append_nil] at e
      have e2 : t.flatMap escT = t.takeWhile rawT := by
        conv => lhs; rw [e]
        exact flat_raw (fun c => escT_raw) _ hall
      obtain ⟨q, rfl⟩ := hr
      rw [e2, step _ ⟨60, q, rfl, by decide⟩, ← e]
    · rw [hd] at e
      obtain ⟨y, hy, hf⟩ := ref_escT hc (q.flatMap escT ++ r)
      have e2 : t.flatMap escT ++ r = t.takeWhile rawT ++ 38 :: y := by
        rw [← hy]
        conv => lhs; rw [e]
        rw [List.flatMap_append, flat_raw (fun c => escT_raw) _ hall, List.flatMap_cons]
        simp
      have hl := congrArg List.length e
      rw [List.length_append, List.length_cons] at hl
      rw [e2, step _ ⟨38, y, rfl, by decide⟩, cont_ref hf, cont_text n q sc _ r (by omega) hr, addText_add, addText_add]
      conv => rhs; rw [e]
      simp
theorem noTwo_cons {a : NodeT} {r : List NodeT} (h : noTwo (a :: r) = true) : noTwo r = true ∧ (a.name = [] → ∀ b q, r = b :: q → b.name ≠ []) := by
  cases r with
  | nil => exact ⟨rfl, fun _ b q e => by cases e⟩
  | cons b q =>
    unfold noTwo at h
    simp only [Bool.and_eq_true, Bool.or_eq_true, Bool.not_eq_true', decide_eq_false_iff_not] at h
    refine ⟨h.2, fun ha b' q' e => ?_⟩
    injection e with e _
    subst e
    exact h.1.resolve_left (fun hn => hn ha)
theorem formL_lt {up : List UInt8} {ks : List NodeT} (h : ∀ b q, ks = b :: q → b.name ≠ []) (r : List UInt8) : ltH (formL up ks ++ 60 :: r) := by
  cases ks with
  | nil => exact ⟨r, by unfold formL; rfl⟩
  | cons k q =>
    obtain ⟨t, s, n, asz, kk⟩ := k
    have hn : n ≠ [] := h _ q rfl
    unfold formL formN
    rw [if_neg hn]
    unfold headF
    exact ⟨_, rfl⟩
def scopeF (sc : Scope) (s up : List UInt8) : Scope := if s = up then sc else ([], s) :: sc
theorem find_scope {sc : Scope} {s up : List UInt8} (h : findX sc [] = some up) : findX (scopeF sc s up) [] = some s := by
  unfold scopeF
  split
  · rename_i e; rw [e]; exact h
  · unfold findX; rw [if_pos rfl]
theorem head_read {s n up : List UInt8} {asz : List AttrT} {sc : Scope} (h2 : attrsOk [] asz = true) (r : List UInt8) (hr : ∃ c q, r = c :: q ∧ whC c = false ∧ othC c = false ∧ c ≠ 58) :
    ∃ r0, (∃ c q, r0 = c :: q ∧ othC c = false ∧ c ≠ 58) ∧ headF s n asz up ++ r = 60 :: (n ++ r0) ∧ attrsX (r0.length + 1) [] [] sc r0 = some ((asz, scopeF sc s up), r) := by
  obtain ⟨c, q, rfl, hc, ho, h58⟩ := hr
  have hlen : ∀ asz : List AttrT, asz.length ≤ (asz.flatMap attrF).length := fun asz => by
    induction asz with
    | nil => exact Nat.le_refl _
    | cons a asz ih =>
      have h1 : 1 ≤ (attrF a).length := by unfold attrF; simp
      rw [List.flatMap_cons, List.length_append, List.length_cons]
      omega
  have hl := hlen asz
  unfold headF scopeF
  by_cases he : s = up
  · rw [if_pos he, if_pos he]
    refine ⟨asz.flatMap attrF ++ c :: q, ?_, by simp, ?_⟩
    · cases asz with
      | nil => exact ⟨c, q, rfl, ho, h58⟩
      | cons a asz => exact ⟨32, _, rfl, by decide, by decide⟩
    · exact attrs_read asz [] [] [] sc (c :: q) _ h2 (fun n hn => by cases hn) ⟨c, q, rfl, hc⟩ (by rw [List.length_append]; omega)
  · rw [if_neg he, if_neg he]
    refine ⟨32 :: (wXmlns ++ ([61, 34] ++ (s.flatMap escV ++ (34 :: (asz.flatMap attrF ++ c :: q))))), ⟨32, _, rfl, by decide, by decide⟩, by simp [wXmlns], ?_⟩
    rw [attr_read (by decide) _ _ _ _ (by simp), if_pos rfl]
    rw [attrs_read asz [] [58 :: wXmlns] [] (([], s) :: sc) (c :: q) _ h2 (fun n hn => by
      rw [List.mem_singleton] at hn
      injection hn with _ hn
      exact .inl hn) ⟨c, q, rfl, hc⟩ (by simp only [List.length_cons, List.length_append]; omega)]
    rfl
theorem word_take {n r0 : List UInt8} : (n ++ r0).take ((n ++ r0).length - r0.length) = n := by
  rw [List.length_append, Nat.add_sub_cancel, List.take_append_of_le_length (Nat.le_refl _), List.take_length]
mutual
theorem elem_read : ∀ (k : NodeT) (d : Nat) (up : List UInt8) (sc : Scope) (r : List UInt8), goodN d k = true → k.name ≠ [] → findX sc [] = some up → elemX sc (formN up k ++ r) = some (k, r)
  | .mk t s n asz ks, d, up, sc, r, hg, hn0, hsc => by
    have hn : n ≠ [] := hn0
    obtain ⟨-, rfl, h3, -, -, h6, h7, h8⟩ := goodN_elem hn hg
    have hnn := (short_parts h3).1
    unfold formN
    rw [if_neg hn]
    by_cases hk : ks = []
    · subst hk
      rw [if_pos (show ([] : List NodeT).isEmpty = true from rfl), List.append_assoc]
      obtain ⟨r0, h0, e1, e2⟩ := head_read (s := s) (n := n) (up := up) (sc := sc) h6 ([47, 62] ++ r) ⟨47, _, rfl, by decide, by decide, by decide⟩
      rw [e1, elemX_eq, show eatX [60] (60 :: (n ++ r0)) = some ((), n ++ r0) from eatX_app [60] _, thenX_mk, qname_read hnn h0, thenX_mk, e2, thenX_mk]
      simp only
      rw [find_scope hsc]
      simp only
      rw [eatX_app]
    · rw [if_neg (by simpa using hk), List.append_assoc]
      obtain ⟨r0, h0, e1, e2⟩ := head_read (s := s) (n := n) (up := up) (sc := sc) h6 (62 :: (formL s ks ++ ([60, 47] ++ (n ++ [62]))) ++ r) ⟨62, _, rfl, by decide, by decide, by decide⟩
      have hno : eatX [47, 62] (62 :: (formL s ks ++ ([60, 47] ++ (n ++ [62]))) ++ r) = none := by
        unfold eatX
        rw [if_neg]
        simp [List.isPrefixOf]
      have h62 : eatX [62] (62 :: (formL s ks ++ ([60, 47] ++ (n ++ [62]))) ++ r) = some ((), formL s ks ++ 60 :: 47 :: (n ++ 62 :: r)) := by
        rw [show 62 :: (formL s ks ++ ([60, 47] ++ (n ++ [62]))) ++ r = [62] ++ (formL s ks ++ 60 :: 47 :: (n ++ 62 :: r)) by simp, eatX_app]
      rw [e1, elemX_eq, show eatX [60] (60 :: (n ++ r0)) = some ((), n ++ r0) from eatX_app [60] _, thenX_mk, qname_read hnn h0, thenX_mk, e2, thenX_mk]
      simp only
      rw [find_scope hsc]
      simp only
      rw [hno]
      simp only
      rw [h62, thenX_mk, cont_read ks (d + 1) s (scopeF sc s up) [] (n ++ 62 :: r) h8 h7 (find_scope hsc) (fun a ha => by cases ha), thenX_mk,
        show eatX [60, 47] (60 :: 47 :: (n ++ 62 :: r)) = some ((), n ++ 62 :: r) from eatX_app [60, 47] _, thenX_mk, word_take, eatX_app, thenX_mk, xwhite_no (by decide), show eatX [62] (62 :: r) = some ((), r) from eatX_app [62] _, thenX_mk]
      rfl
theorem cont_read : ∀ (ks : List NodeT) (d : Nat) (up : List UInt8) (sc : Scope) (acc : List NodeT) (r : List UInt8), goodL d ks = true → noTwo ks = true → findX sc [] = some up →
    (∀ a, acc.getLast? = some a → a.name = [] → ∀ b q, ks = b :: q → b.name ≠ []) → contX sc acc (formL up ks ++ 60 :: 47 :: r) = some (acc ++ ks, 60 :: 47 :: r)
  | [], d, up, sc, acc, r, _, _, _, _ => by
    unfold formL
    rw [List.nil_append, contX_eq, if_pos (by simp [List.isPrefixOf]), List.append_nil]
  | k :: ks, d, up, sc, acc, r, hg, h2, hsc, hacc => by
    obtain ⟨hg1, hg2⟩ := goodL_cons hg
    obtain ⟨h3, h4⟩ := noTwo_cons h2
    have e : formL up (k :: ks) ++ 60 :: 47 :: r = formN up k ++ (formL up ks ++ 60 :: 47 :: r) := by
      conv => lhs; unfold formL
      simp
    rw [e]
    by_cases hk : k.name = []
    · obtain ⟨t, s, n, asz, kk⟩ := k
      obtain ⟨g1, g2, rfl, rfl, rfl⟩ := goodN_text hk hg1
      obtain rfl : n = [] := hk
      have hf : formN up (.mk t [] [] [] []) = t.flatMap escT := by
        unfold formN
        rw [if_pos rfl]
      have hb := h4 rfl
      rw [hf, cont_text t.length t sc acc _ (Nat.le_refl _) (formL_lt hb _), addText_new g1 (fun a ha hn => hacc a ha hn _ _ rfl rfl),
        cont_read ks d up sc (acc ++ [textN t]) r hg2 h3 hsc (fun a ha hn b q hq => hb b q hq)]
      simp [textN]
    · have hx := elem_read k d up sc (formL up ks ++ 60 :: 47 :: r) hg1 hk hsc
      obtain ⟨c, q, hq, hc⟩ := elemX_head hx
      obtain ⟨t1, t2, t3, t4⟩ := (show plainH (formN up k ++ (formL up ks ++ 60 :: 47 :: r)) from ⟨60, c :: q, hq, .inr ⟨c, q, rfl, hc⟩⟩).tests
      rw [contX_eq, if_neg (by rw [t1]; simp), if_neg t2, t3, t4]
      simp only
      rw [if_pos (by rw [hq]; rfl), hx, thenX_mk, cont_read ks d up sc (acc ++ [k]) r hg2 h3 hsc (fun a ha hn => by
        rw [List.getLast?_concat] at ha
        injection ha with ha
        rw [← ha] at hn
        exact absurd hn hk)]
      simp
end
theorem misc_plain {s : List UInt8} (h : plainH s) (hw : whiteX s = s) (f : Nat) : miscX (f + 1) s = some ((), s) := by
  unfold miscX
  rw [hw, if_neg (Nat.lt_irrefl _), h.tests.2.2.1]
end Go.Proofs.YtjkiehmjffgnlaaGreatDoor
namespace Go.Proofs.YtjkiehmjffgnlaaGreatDoor
set_option linter.unusedVariables false
set_option linter.unusedSimpArgs false

def coreX (s : List UInt8) : Option NodeT :=
  match thenX (miscX (s.length + 1) s) fun _ r => thenX (elemX [] r) fun n r => thenX (miscX (r.length + 1) r) fun _ r => if r = [] then some (n, r) else none with
  | none => none
  | some (n, _) => some n
def declared (s : List UInt8) : Bool := [60, 63, 120, 109, 108].isPrefixOf s && decide (5 < s.length) && whC (s.getD 5 0)
def endsX (o : Option NodeT) : Except Int NodeT :=
  match o with
  | none => .error 30
  | some n => if goodT n then .ok n else .error 31
theorem parseX_eq (s : List UInt8) : parseX s = if 65536 < s.length then .error 5 else if lettersX s = false then .error 30 else
    endsX (if declared s then (match cutS [63, 62] s with | none => none | some (_, r) => coreX r) else coreX s) := by
  have key : ∀ r : List UInt8, (match thenX (miscX (r.length + 1) r) fun _ r => thenX (elemF (2 * r.length + 1) [] r) fun n r => thenX (miscX (r.length + 1) r) fun _ r => if r = [] then some (n, r) else none with
      | none => (.error 30 : Except Int NodeT)
      | some (n, _) => if goodT n then .ok n else .error 31) = endsX (coreX r) := fun r => by
    unfold coreX endsX
    show (match thenX (miscX (r.length + 1) r) fun _ r => thenX (elemX [] r) fun n r => thenX (miscX (r.length + 1) r) fun _ r => if r = [] then some (n, r) else none with
      | none => (.error 30 : Except Int NodeT)
      | some (n, _) => if goodT n then .ok n else .error 31) = _
    generalize (thenX (miscX (r.length + 1) r) fun _ r => thenX (elemX [] r) fun n r => thenX (miscX (r.length + 1) r) fun _ r => if r = [] then some (n, r) else none : X1 NodeT) = x
    rcases x with _ | ⟨n, q⟩ <;> rfl
  unfold parseX
  split
  · rfl
  · split
    · rfl
    · show (match (if declared s then (cutS [63, 62] s).map (·.2) else some s : Option (List UInt8)) with
        | none => (.error 30 : Except Int NodeT)
        | some s1 => _) = _
      by_cases hd : declared s = true
      · rw [if_pos hd, if_pos hd]
        rcases cutS [63, 62] s with _ | ⟨a, b⟩
        · rfl
        · exact key b
      · rw [if_neg hd, if_neg hd]
        exact key s
theorem misc_step (f : Nat) (s : List UInt8) : miscX (f + 1) s = if (whiteX s).length < s.length then miscX f (whiteX s) else
      match skipX s with
      | none => none
      | some (true, r) => miscX f r
      | some (false, _) => some ((), s) := rfl
theorem misc_fuel : ∀ (f g : Nat) (s : List UInt8), s.length < f → s.length < g → miscX f s = miscX g s
  | 0, _, _, h, _ => absurd h (Nat.not_lt_zero _)
  | _ + 1, 0, _, _, h => absurd h (Nat.not_lt_zero _)
  | f + 1, g + 1, s, h1, h2 => by
    rw [misc_step, misc_step]
    split
    · exact misc_fuel f g _ (by omega) (by omega)
    · split
      · rfl
      · rename_i r hs
        have := (skipX_true hs).1
        exact misc_fuel f g _ (by omega) (by omega)
      · rfl
theorem misc_len : ∀ (f : Nat) (s r : List UInt8) (u : Unit), miscX f s = some (u, r) → r.length ≤ s.length
  | 0, _, _, _, h => by cases h
  | f + 1, s, r, u, h => by
    rw [misc_step] at h
    split at h
    · have := misc_len f _ _ _ h
      omega
    · split at h
      · cases h
      · rename_i r1 hs
        have := (skipX_true hs).1
        have := misc_len f _ _ _ h
        omega
      · injection h with h
        injection h with _ h
        rw [h]
        exact Nat.le_refl _
def miscS (s : List UInt8) : X1 Unit := miscX (s.length + 1) s
theorem miscS_eq (s : List UInt8) : miscS s = if (whiteX s).length < s.length then miscS (whiteX s) else
      match skipX s with
      | none => none
      | some (true, r) => miscS r
      | some (false, _) => some ((), s) := by
  conv => lhs; unfold miscS
  rw [misc_step]
  split
  · exact misc_fuel _ _ _ (by omega) (by omega)
  · split
    · rfl
    · rename_i r hs
      have := (skipX_true hs).1
      exact misc_fuel _ _ _ (by omega) (by omega)
    · rfl
theorem miscS_skip {s r : List UInt8} (h : skipX s = some (true, r)) : miscS s = miscS r := by
  obtain ⟨c, q, rfl, -⟩ := skip_head h
  rw [miscS_eq, xwhite_no (by decide), if_neg (Nat.lt_irrefl _), h]
theorem miscS_white {s : List UInt8} (h : (whiteX s).length < s.length) : miscS s = miscS (whiteX s) := by
  rw [miscS_eq, if_pos h]
theorem miscS_plain {s : List UInt8} (h : plainH s) (hw : whiteX s = s) : miscS s = some ((), s) := misc_plain h hw _
theorem white_stop {s : List UInt8} (h : ¬ (whiteX s).length < s.length) (hne : s ≠ []) : ∃ c q, s = c :: q ∧ whC c = false := by
  obtain ⟨c, q, rfl⟩ := List.exists_cons_of_ne_nil hne
  refine ⟨c, q, rfl, ?_⟩
  rcases hc : whC c with _ | _
  · rfl
  · exfalso
    apply h
    unfold whiteX
    rw [List.dropWhile_cons, if_pos hc]
    have := (List.dropWhile_suffix (l := q) whC).length_le
    simp only [List.length_cons]
    omega
theorem misc_app : ∀ (n : Nat) (s r : List UInt8), s.length ≤ n → miscS s = some ((), r) → plainH r → ∀ t, miscS (s ++ t) = some ((), r ++ t)
  | n, s, r, hn, h, hp, t => by
    by_cases hne : s = []
    · subst hne
      have : miscS [] = some ((), []) := rfl
      rw [this] at h
      injection h with h
      injection h with _ h
      subst h
      obtain ⟨c, q, e, -⟩ := hp
      cases e
    · by_cases hw : (whiteX s).length < s.length
      · rw [miscS_white hw] at h
        have hw0 : whiteX s ≠ [] := by
          intro e
          rw [e] at h
          have : miscS [] = some ((), []) := rfl
          rw [this] at h
          injection h with h
          injection h with _ h
          subst h
          obtain ⟨c, q, e, -⟩ := hp
          cases e
        cases n with
        | zero => exact absurd (List.eq_nil_of_length_eq_zero (by omega)) hne
        | succ n =>
          rw [miscS_white (by rw [white_app hw0, List.length_append, List.length_append]; omega), white_app hw0]
          exact misc_app n _ r (by omega) h hp t
      · obtain ⟨c, q, hc, hcw⟩ := white_stop hw hne
        rw [miscS_eq, if_neg hw] at h
        split at h
        · cases h
        · rename_i r1 hs
          obtain ⟨l1, l2⟩ := skipX_true hs
          cases n with
          | zero => exact absurd (List.eq_nil_of_length_eq_zero (by omega)) hne
          | succ n =>
            rw [miscS_skip (l2 t)]
            exact misc_app n _ r (by omega) h hp t
        · injection h with h
          injection h with _ h
          subst h
          refine miscS_plain (hp.app t) ?_
          rw [hc, List.cons_append, xwhite_no hcw]
def noiseN (a : UInt8) : List UInt8 := [60, 33, 45, 45, 32, a, 32, 45, 32, 45, 45, 62]
def piN : List UInt8 := [60, 63, 112, 105, 32, 120, 63, 62]
theorem skip_noise {a : UInt8} (h1 : 97 ≤ a.toNat) (h2 : a.toNat ≤ 122) (t : List UInt8) : skipX (noiseN a ++ t) = some (true, t) := by
  have ha : (45 : UInt8) ≠ a := by intro e; subst e; revert h1; decide
  unfold skipX
  rw [show noiseN a ++ t = wCom ++ ([32, a, 32, 45, 32, 45, 45, 62] ++ t) from rfl, eatX_app]
  have hc : cutS [45, 45] ([32, a, 32, 45, 32, 45, 45, 62] ++ t) = some ([32, a, 32, 45, 32], 62 :: t) := by
    simp [cutS, List.isPrefixOf, ha]
  simp only
  rw [hc, thenX_mk, show eatX [62] (62 :: t) = some ((), t) from eatX_app [62] t]
  rfl
theorem skip_pi (t : List UInt8) : skipX (piN ++ t) = some (true, t) := by
  unfold skipX
  have h0 : eatX wCom (piN ++ t) = none := by
    unfold eatX
    rw [if_neg]
    simp [List.isPrefixOf, wCom, piN]
  rw [h0, show piN ++ t = [60, 63] ++ ([112, 105, 32, 120, 63, 62] ++ t) from rfl, eatX_app]
  simp only
  have hn : nameX ([112, 105, 32, 120, 63, 62] ++ t) = some ([112, 105], [32, 120, 63, 62] ++ t) := name_read (n := [112, 105]) (by decide) (fun c q e => by injection e with e _; subst e; decide)
  rw [hn, thenX_mk, if_neg (by decide)]
  have hc : cutS [63, 62] ([32, 120, 63, 62] ++ t) = some ([32, 120], t) := by simp [cutS, List.isPrefixOf]
  rw [hc]
  rfl
def tailN (a : UInt8) : List UInt8 := 10 :: (piN ++ noiseN a)
def preN (a : UInt8) (s : List UInt8) : List UInt8 := noiseN a ++ (32 :: 10 :: (noiseN a ++ s))
theorem misc_pre {a : UInt8} (h1 : 97 ≤ a.toNat) (h2 : a.toNat ≤ 122) (s : List UInt8) : miscS (preN a s) = miscS s := by
  unfold preN
  have hw : whiteX (32 :: 10 :: (noiseN a ++ s)) = noiseN a ++ s := by
    unfold whiteX
    rw [List.dropWhile_cons, if_pos (by decide), List.dropWhile_cons, if_pos (by decide)]
    exact xwhite_no (by decide) _
  rw [miscS_skip (skip_noise h1 h2 _), miscS_white (by rw [hw]; simp only [List.length_cons]; omega), hw, miscS_skip (skip_noise h1 h2 _)]
theorem misc_tail0 {a : UInt8} (h1 : 97 ≤ a.toNat) (h2 : a.toNat ≤ 122) : miscS (piN ++ noiseN a) = some ((), []) := by
  have := skip_noise h1 h2 []
  rw [List.append_nil] at this
  rw [miscS_skip (skip_pi _), miscS_skip this]
  rfl
theorem white_tail (a : UInt8) : whiteX (tailN a) = piN ++ noiseN a := by
  unfold whiteX tailN
  rw [List.dropWhile_cons, if_pos (by decide)]
  exact xwhite_no (by decide) _
theorem white_nil_app {s t : List UInt8} (h : whiteX s = []) : whiteX (s ++ t) = whiteX t := by
  induction s with
  | nil => rfl
  | cons c s ih =>
    unfold whiteX at h ⊢
    rw [List.dropWhile_cons] at h
    split at h
    · rename_i hc
      rw [List.cons_append, List.dropWhile_cons, if_pos hc]
      exact ih h
    · cases h
theorem misc_tail {a : UInt8} (h1 : 97 ≤ a.toNat) (h2 : a.toNat ≤ 122) : ∀ (n : Nat) (s : List UInt8), s.length ≤ n → miscS s = some ((), []) → miscS (s ++ tailN a) = some ((), [])
  | n, s, hn, h => by
    have t0 := misc_tail0 h1 h2
    by_cases hw0 : whiteX s = []
    · have hw := white_nil_app (t := tailN a) hw0
      rw [white_tail] at hw
      rw [miscS_white (by rw [hw]; unfold tailN; simp; omega), hw, t0]
    · have hne : s ≠ [] := by intro e; subst e; exact hw0 rfl
      by_cases hw : (whiteX s).length < s.length
      · rw [miscS_white hw] at h
        cases n with
        | zero => exact absurd (List.eq_nil_of_length_eq_zero (by omega)) hne
        | succ n =>
          rw [miscS_white (by rw [white_app hw0, List.length_append, List.length_append]; omega), white_app hw0]
          exact misc_tail h1 h2 n _ (by omega) h
      · rw [miscS_eq, if_neg hw] at h
        split at h
        · cases h
        · rename_i r1 hs
          obtain ⟨l1, l2⟩ := skipX_true hs
          cases n with
          | zero => exact absurd (List.eq_nil_of_length_eq_zero (by omega)) hne
          | succ n =>
            rw [miscS_skip (l2 _)]
            exact misc_tail h1 h2 n _ (by omega) h
        · injection h with h
          injection h with _ h
          exact absurd h hne
theorem coreX_S (s : List UInt8) : coreX s = match thenX (miscS s) fun _ r => thenX (elemX [] r) fun n r => thenX (miscS r) fun _ r => if r = [] then some (n, r) else none with
  | none => none
  | some (n, _) => some n := rfl
theorem core_some {s : List UInt8} {n : NodeT} (h : coreX s = some n) : ∃ r1 r2, miscS s = some ((), r1) ∧ elemX [] r1 = some (n, r2) ∧ miscS r2 = some ((), []) := by
  rw [coreX_S] at h
  split at h
  · cases h
  · rename_i n' q hx
    injection h with h
    subst h
    obtain ⟨u, r1, h1, h⟩ := thenX_some hx
    obtain ⟨n1, r2, h2, h⟩ := thenX_some h
    obtain ⟨u2, r3, h3, h⟩ := thenX_some h
    split at h
    · rename_i hr
      injection h with h
      injection h with h _
      subst h hr
      exact ⟨r1, r2, h1, h2, h3⟩
    · cases h
theorem core_mk {s r1 r2 : List UInt8} {n : NodeT} (h1 : miscS s = some ((), r1)) (h2 : elemX [] r1 = some (n, r2)) (h3 : miscS r2 = some ((), [])) : coreX s = some n := by
  rw [coreX_S, h1, thenX_mk, h2, thenX_mk, h3, thenX_mk, if_pos rfl]
theorem core_tail {a : UInt8} (h1 : 97 ≤ a.toNat) (h2 : a.toNat ≤ 122) {s : List UInt8} {n : NodeT} (h : coreX s = some n) : coreX (s ++ tailN a) = some n := by
  obtain ⟨r1, r2, e1, e2, e3⟩ := core_some h
  obtain ⟨c, q, hq, hc⟩ := elemX_head e2
  exact core_mk (misc_app _ s r1 (Nat.le_refl _) e1 ⟨60, c :: q, hq, .inr ⟨c, q, rfl, hc⟩⟩ _) (elemX_app e2 _) (misc_tail h1 h2 _ r2 (Nat.le_refl _) e3)
theorem core_pre {a : UInt8} (h1 : 97 ≤ a.toNat) (h2 : a.toNat ≤ 122) (s : List UInt8) : coreX (preN a s) = coreX s := by
  rw [coreX_S, coreX_S, misc_pre h1 h2]
theorem core_declared {s : List UInt8} (h : declared s = true) : coreX s = none := by
  unfold declared at h
  simp only [Bool.and_eq_true, decide_eq_true_eq] at h
  obtain ⟨⟨h1, h2⟩, h3⟩ := h
  rw [List.isPrefixOf_iff_prefix] at h1
  obtain ⟨t, rfl⟩ := h1
  rcases t with _ | ⟨c, t⟩
  · simp at h2
  · have hc : whC c = true := h3
    have ho : othC c = false := by
      have := u8_allX (fun c => !whC c || !othC c) (by decide +kernel) c
      simpa [hc] using this
    have hsk : skipX ([60, 63, 120, 109, 108] ++ c :: t) = none := by
      unfold skipX
      have h0 : eatX wCom ([60, 63, 120, 109, 108] ++ c :: t) = none := by
        unfold eatX
        rw [if_neg]
        simp [List.isPrefixOf, wCom]
      rw [h0, show [60, 63, 120, 109, 108] ++ c :: t = [60, 63] ++ ([120, 109, 108] ++ c :: t) from rfl, eatX_app]
      simp only
      rw [name_read (n := [120, 109, 108]) (by decide) (fun c' q e => by injection e with e _; rw [← e]; exact ho), thenX_mk, if_pos (by decide)]
    have : miscS ([60, 63, 120, 109, 108] ++ c :: t) = none := by
      rw [miscS_eq, show whiteX ([60, 63, 120, 109, 108] ++ c :: t) = [60, 63, 120, 109, 108] ++ c :: t from xwhite_no (by decide) _, if_neg (Nat.lt_irrefl _), hsk]
    rw [coreX_S, this]
    rfl
theorem letters_app2 {a : List UInt8} (h : lettersX a = true) (b : List UInt8) : lettersX (a ++ b) = lettersX b := letters_app a.length a b (Nat.le_refl _) h
theorem letters_noise {a : UInt8} (h1 : 97 ≤ a.toNat) (h2 : a.toNat ≤ 122) : lettersX (noiseN a) = true := by
  have ha : letC a.toNat = true := by unfold letC; rw [decide_eq_true_eq]; omega
  have e : noiseN a = [60, 33, 45, 45, 32] ++ (a :: [32, 45, 32, 45, 45, 62]) := rfl
  rw [e]
  refine letters_and (by decide +kernel) ?_
  rw [letters_ascii (by omega) ha]
  decide +kernel
theorem declared_app {s : List UInt8} (t : List UInt8) (h : declared s = true) : declared (s ++ t) = true := by
  unfold declared at h ⊢
  simp only [Bool.and_eq_true, decide_eq_true_eq] at h ⊢
  obtain ⟨⟨h1, h2⟩, h3⟩ := h
  exact ⟨⟨prefix_app h1 t, by rw [List.length_append]; omega⟩, by rw [getD_app h2]; exact h3⟩
theorem letters_pre {a : UInt8} (h1 : 97 ≤ a.toNat) (h2 : a.toNat ≤ 122) (s : List UInt8) : lettersX (preN a s) = lettersX s := by
  have hn := letters_noise h1 h2
  unfold preN
  generalize noiseN a = N at *
  rw [letters_app2 hn, letters_ascii (by decide) (by decide), letters_ascii (by decide) (by decide), letters_app2 hn]
theorem declared_pre (a : UInt8) (s : List UInt8) : declared (preN a s) = false := by
  unfold declared
  have : [60, 63, 120, 109, 108].isPrefixOf (preN a s) = false := by simp [List.isPrefixOf, preN, noiseN]
  rw [this]
  rfl
theorem parse_pre {a : UInt8} (h1 : 97 ≤ a.toNat) (h2 : a.toNat ≤ 122) {s : List UInt8} (hs : s.length ≤ 60000) : (declared s = false → parseX (preN a s) = parseX s) ∧ (declared s = true → ∀ n, parseX s = .ok n → parseX (preN a s) = .error 30) := by
  have hl : (preN a s).length = 26 + s.length := by unfold preN noiseN; simp; omega
  have n1 : ¬ 65536 < (preN a s).length := by omega
  have n2 : ¬ 65536 < s.length := by omega
  have k1 := letters_pre h1 h2 s
  have k2 := declared_pre a s
  have k3 := core_pre h1 h2 s
  generalize preN a s = P at *
  constructor
  · intro hd
    rw [parseX_eq P, parseX_eq s, if_neg n1, if_neg n2, k1, k2, hd, k3]
    simp only [Bool.false_eq_true, if_false]
  · intro hd n hn
    rw [parseX_eq s, if_neg n2] at hn
    split at hn
    · cases hn
    · rename_i hle
      rw [parseX_eq P, if_neg n1, k1, if_neg hle, k2, k3, if_neg (by simp), core_declared hd]
      rfl
theorem endsX_some {o : Option NodeT} {n : NodeT} (ho : endsX o = .ok n) : o = some n := by
  rcases o with _ | m
  · cases ho
  · unfold endsX at ho
    simp only at ho
    split at ho
    · injection ho with ho; rw [ho]
    · cases ho
theorem letters_tail {a : UInt8} (h1 : 97 ≤ a.toNat) (h2 : a.toNat ≤ 122) : lettersX (tailN a) = true := by
  have hn := letters_noise h1 h2
  unfold tailN
  generalize noiseN a = N at *
  rw [letters_ascii (by decide) (by decide)]
  exact letters_and (by decide +kernel) hn
theorem parse_tail {a : UInt8} (h1 : 97 ≤ a.toNat) (h2 : a.toNat ≤ 122) {s : List UInt8} (hs : s.length ≤ 60000) {n : NodeT} (hn : parseX s = .ok n) : parseX (s ++ tailN a) = .ok n := by
  have hl : (tailN a).length = 21 := by unfold tailN piN noiseN; simp
  have lt := letters_tail h1 h2
  have hc1 := fun (x : List UInt8) (h : coreX x = some n) => core_tail h1 h2 h
  generalize tailN a = T at *
  have n1 : ¬ 65536 < (s ++ T).length := by rw [List.length_append]; omega
  have n2 : ¬ 65536 < s.length := by omega
  rw [parseX_eq s, if_neg n2] at hn
  by_cases hle : lettersX s = false
  · rw [if_pos hle] at hn; cases hn
  · rw [if_neg hle] at hn
    have hle' : lettersX s = true := by simpa using hle
    have hle2 : ¬ lettersX (s ++ T) = false := by rw [letters_app2 hle', lt]; simp
    rw [parseX_eq (s ++ T), if_neg n1, if_neg hle2]
    by_cases hd : declared s = true
    · rw [if_pos hd] at hn
      rw [if_pos (declared_app _ hd)]
      have h0 := endsX_some hn
      rcases hc : cutS [63, 62] s with _ | ⟨x, r⟩
      · rw [hc] at h0; cases h0
      · rw [hc] at h0 hn
        simp only at h0 hn
        rw [cut_app _ hc]
        simp only
        rw [hc1 _ h0, ← h0]
        exact hn
    · rw [if_neg hd] at hn
      have h0 := endsX_some hn
      have hd2 : ¬ declared (s ++ T) = true := by
        intro h
        apply hd
        have hcore := hc1 _ h0
        rw [core_declared h] at hcore
        cases hcore
      rw [if_neg hd2, hc1 _ h0, ← h0]
      exact hn
end Go.Proofs.YtjkiehmjffgnlaaGreatDoor
namespace Go.Proofs.YtjkiehmjffgnlaaGreatDoor
set_option linter.unusedVariables false
set_option linter.unusedSimpArgs false
open Go.RowKit

theorem skipX_eq (s : List UInt8) : skipX s = match eatX wCom s with
  | some (_, r) => thenX (cutS [45, 45] r) fun _ r => thenX (eatX [62] r) fun _ r => some (true, r)
  | none =>
    match eatX [60, 63] s with
    | some (_, r) => thenX (nameX r) fun n r => if foldX n then none else thenX (cutS [63, 62] r) fun _ r => some (true, r)
    | none => some (false, s) := rfl
set_option maxHeartbeats 4000000 in
set_option maxRecDepth 100000 in
set_option linter.unusedSimpArgs false in
theorem xskip_any (b : Nat) (s : List UInt8) (w : World) (h : PX w b s) (hs : s.length ≤ 1000000) (hE : XE w b) : Calls Tryz.prog 85 #[.pointer (some ⟨b, 0, none⟩)] w (XOut b (skipX s) boolV w) := by
  have HE1 := Lib.hid (xeat_any b s wCom w h)
  unfold wCom at HE1
  have HEt := Lib.hid (fun w s word (h : PX w b s) => xeat_any b s word w h)
  have HMu := Lib.hid (fun w s word (h : PX w b s) => xmust_any b s word w h)
  have HUp := Lib.hid (fun w1 s word (h : PX w1 b s) (hs : s.length ≤ 1000000) (hg : w.grownBy w1 (some b)) => xupto_any b s word w1 h (by omega) (hE.step hg))
  have HNm := Lib.hid (fun w s (h : PX w b s) (hs : s.length ≤ 1000000) => xpname_any b s w h (by omega))
  have HFo := Lib.hid (fun n w1 (hn : n.length ≤ 1000000) (hg : w.grownBy w1 (some b)) => xfold_any n w1 (by omega) (hE.step hg).at)
  have hX := skipX_eq s
  obtain ⟨ANS, hA⟩ : ∃ A, skipX s = A := ⟨_, rfl⟩
  rw [hA] at hX ⊢
  have HX := Lib.hid hX
  clear h hA hX hE
  go_enter Tryz.func85, Tryz.ntmps85
  go_wp2_with fail
  refine HE1.out.mono ?_
  rintro e w1 ⟨hg1, hx⟩
  clear HE1
  rcases h1 : eatX [60, 33, 45, 45] s with _ | ⟨u, r⟩
  · rw [h1] at hx
    obtain ⟨rfl, hp1⟩ := hx
    have HX1 := Lib.hid (show ANS = match eatX [60, 63] s with
      | some (_, r) => thenX (nameX r) fun n r => if foldX n then none else thenX (cutS [63, 62] r) fun _ r => some (true, r)
      | none => some (false, s) by rw [HX.out]; unfold wCom; rw [h1])
    have HP1 := Lib.hid hp1
    have HG1 := Lib.hid hg1
    clear h1 hp1 hg1 HX
    go_wp2_with fail
    refine (HEt.out w1 s [60, 63] HP1.out).mono ?_
    rintro e w2 ⟨hg2, hx2⟩
    have hg2' := grown_trans HG1.out hg2
    rcases h2 : eatX [60, 63] s with _ | ⟨u, r⟩
    · rw [h2] at hx2 HX1
      obtain ⟨rfl, hp2⟩ := hx2
      have HP2 := Lib.hid hp2
      have HG2 := Lib.hid hg2'
      clear h2 hp2 hg2 hg2' HP1 HG1
      go_wp2
      go_ret
      exact xout_ok HX1.out HG2.out rfl HP2.out
    · rw [h2] at hx2 HX1
      obtain ⟨rfl, hp2⟩ := hx2
      have hl2 := eat_lenX h2
      have HP2 := Lib.hid hp2
      have HG2 := Lib.hid hg2'
      clear h2 hp2 hg2 hg2' HP1 HG1
      go_wp2_with fail
      refine (HNm.out w2 r HP2.out (by omega)).mono ?_
      rintro e w3 ⟨hg3, hx3⟩
      have hg3' := grown_trans HG2.out hg3
      rcases h3 : nameX r with _ | ⟨n, r3⟩
      · rw [h3] at hx3 HX1
        subst hx3
        exact ⟨rfl, xout_no HX1.out hg3'⟩
      · rw [h3] at hx3
        obtain ⟨v, rfl, rfl, hp3⟩ := hx3
        have HX3 := Lib.hid (show ANS = if foldX n then none else thenX (cutS [63, 62] r3) fun _ r => some (true, r) by rw [HX1.out]; show thenX (nameX r) _ = _; rw [h3]; rfl)
        have hl3 := nameX_len h3
        have hln : n.length ≤ 1000000 := by
          have := congrArg List.length (nameX_some h3).1
          rw [List.length_append] at this
          omega
        have HP3 := Lib.hid hp3
        have HG3 := Lib.hid hg3'
        have HFn := Lib.hid (HFo.out n w3 hln HG3.out)
        clear h3 hp3 hg3 hg3' HP2 HG2 HX1 HFo
        go_wp2_with fail
        refine HFn.out.mono ?_
        rintro e w4 ⟨rfl, hb4⟩
        have HP4 := Lib.hid (HP3.out.below hb4)
        have HG4 := Lib.hid (grown_trans HG3.out (Below.toGrown hb4 (some b)))
        clear hb4 HP3 HG3 HFn
        cases hf : foldX n
        · rw [hf] at HX3
          clear hf
          go_wp2_with fail
          refine (HUp.out w4 r3 [63, 62] HP4.out (by omega) HG4.out).mono ?_
          rintro e w5 ⟨hg5, hx5⟩
          have hg5' := grown_trans HG4.out hg5
          rcases h5 : cutS [63, 62] r3 with _ | ⟨a, r5⟩
          · rw [h5] at hx5 HX3
            subst hx5
            exact ⟨rfl, xout_no HX3.out hg5'⟩
          · rw [h5] at hx5 HX3
            obtain ⟨v, rfl, rfl, hp5⟩ := hx5
            have HP5 := Lib.hid hp5
            have HG5 := Lib.hid hg5'
            clear h5 hp5 hg5 hg5' HP4 HG4
            go_wp2
            go_ret
            exact xout_ok HX3.out HG5.out rfl HP5.out
        · rw [hf] at HX3
          clear hf
          go_wp2_with fail
          refine (xfail_any _).mono ?_
          rintro e w5 ⟨rfl, rfl⟩
          exact ⟨rfl, xout_no HX3.out HG4.out⟩
  · rw [h1] at hx
    obtain ⟨rfl, hp1⟩ := hx
    have HX1 := Lib.hid (show ANS = thenX (cutS [45, 45] r) fun _ r => thenX (eatX [62] r) fun _ r => some (true, r) by rw [HX.out]; unfold wCom; rw [h1])
    have hl1 := eat_lenX h1
    have HP1 := Lib.hid hp1
    have HG1 := Lib.hid hg1
    clear h1 hp1 hg1 HX
    go_wp2_with fail
    refine (HUp.out w1 r [45, 45] HP1.out (by omega) HG1.out).mono ?_
    rintro e w2 ⟨hg2, hx2⟩
    have hg2' := grown_trans HG1.out hg2
    rcases h2 : cutS [45, 45] r with _ | ⟨a, r2⟩
    · rw [h2] at hx2 HX1
      subst hx2
      exact ⟨rfl, xout_no HX1.out hg2'⟩
    · rw [h2] at hx2 HX1
      obtain ⟨v, rfl, rfl, hp2⟩ := hx2
      have HP2 := Lib.hid hp2
      have HG2 := Lib.hid hg2'
      clear h2 hp2 hg2 hg2' HP1 HG1
      go_wp2_with fail
      refine (HMu.out w2 r2 [62] HP2.out).mono ?_
      rintro e w3 ⟨hg3, hx3⟩
      have hg3' := grown_trans HG2.out hg3
      rcases h3 : eatX [62] r2 with _ | ⟨u, r3⟩
      · rw [h3] at hx3
        have HX2 := Lib.hid (show ANS = none by rw [HX1.out]; show thenX (eatX [62] r2) _ = _; rw [h3]; rfl)
        subst hx3
        exact ⟨rfl, xout_no HX2.out hg3'⟩
      · rw [h3] at hx3
        have HX2 := Lib.hid (show ANS = some (true, r3) by rw [HX1.out]; show thenX (eatX [62] r2) _ = _; rw [h3]; rfl)
        obtain ⟨v, rfl, rfl, hp3⟩ := hx3
        have HP3 := Lib.hid hp3
        have HG3 := Lib.hid hg3'
        clear h3 hp3 hg3 hg3' HP2 HG2 HX1
        go_wp2
        go_ret
        exact xout_ok HX2.out HG3.out rfl HP3.out
theorem white_same {s : List UInt8} (h : ¬ (whiteX s).length < s.length) : whiteX s = s := by
  rcases s with _ | ⟨c, q⟩
  · rfl
  · obtain ⟨c', q', e, hc⟩ := white_stop h (by simp)
    rw [e]
    exact xwhite_no hc _
set_option maxHeartbeats 4000000 in
set_option maxRecDepth 100000 in
set_option linter.unusedSimpArgs false in
theorem xmisc_any (b : Nat) (s : List UInt8) (w : World) (h : PX w b s) (hs : s.length ≤ 1000000) (hE : XE w b) : Calls Tryz.prog 62 #[.pointer (some ⟨b, 0, none⟩)] w (XOut b (miscS s) noV w) := by
  have HW := Lib.hid (fun w s (h : PX w b s) => xwhite_any b s w h)
  have HSk := Lib.hid (fun w1 s (h : PX w1 b s) (hs : s.length ≤ 1000000) (hg : w.grownBy w1 (some b)) => xskip_any b s w1 h hs (hE.step hg))
  have H := Lib.hid h
  obtain ⟨ANS, hA⟩ : ∃ A, miscS s = A := ⟨_, rfl⟩
  rw [hA]
  have HA := Lib.hid hA
  clear h hA hE
  go_enter Tryz.func62, Tryz.ntmps62
  go_wp2_with fail
  go_loopg [7] s.length (fun g _ wr => ∃ s' : List UInt8, s'.length ≤ g ∧ s'.length ≤ 1000000 ∧ PX wr b s' ∧ w.grownBy wr (some b) ∧ Hid (miscS s' = ANS))
  case atStart => exact ⟨s, Nat.le_refl _, hs, H.out, World.grownBy.refl _ _, HA⟩
  case round =>
    obtain ⟨s', hl, hl2, hp, hg, HK⟩ := hrel
    have HP := Lib.hid hp
    have HG := Lib.hid hg
    clear hp hg H HA
    go_wp2_with fail
    refine (HW.out wr s' HP.out).mono ?_
    rintro e w1 ⟨hg1, rfl, hp1⟩
    have hg1' := grown_trans HG.out hg1
    have HP1 := Lib.hid hp1
    have HG1 := Lib.hid hg1'
    by_cases hw : (whiteX s').length < s'.length
    · have hd : decide ((whiteX s').length < s'.length) = true := decide_eq_true hw
      have HK1 := Lib.hid (show miscS (whiteX s') = ANS by rw [← HK.out, miscS_white hw])
      rw [hd]
      clear hp1 hg1 hg1' HP HG HK hd
      go_wp2
      go_roundg (whiteX s').length
      case measure => omega
      case rel => exact ⟨whiteX s', Nat.le_refl _, by omega, HP1.out, HG1.out, HK1⟩
    · have hd : decide ((whiteX s').length < s'.length) = false := decide_eq_false hw
      rw [hd]
      have hws := white_same hw
      rw [hws] at HP1
      have hKe := miscS_eq s'
      rw [if_neg hw, HK.out] at hKe
      have HKe := Lib.hid hKe
      clear hp1 hg1 hg1' HP HG HK hd hws hKe
      go_wp2_with fail
      refine (HSk.out w1 s' HP1.out hl2 HG1.out).mono ?_
      rintro e w2 ⟨hg2, hx2⟩
      have hg2' := grown_trans HG1.out hg2
      rcases h2 : skipX s' with _ | ⟨t, r⟩
      · rw [h2] at hx2 HKe
        subst hx2
        exact ⟨rfl, xout_no HKe.out hg2'⟩
      · rw [h2] at hx2 HKe
        obtain ⟨v, rfl, rfl, hp2⟩ := hx2
        cases t
        · have he := (skipX_false h2).1
          subst he
          have HP2 := Lib.hid hp2
          have HG2 := Lib.hid hg2'
          clear h2 hp2 hg2 hg2' HP1 HG1
          go_wp2
          go_end0
          exact xout_ok HKe.out HG2.out rfl HP2.out
        · have hlr := (skipX_true h2).1
          have HP2 := Lib.hid hp2
          have HG2 := Lib.hid hg2'
          have HK2 := Lib.hid (show miscS r = ANS from HKe.out.symm)
          clear h2 hp2 hg2 hg2' HP1 HG1 HKe
          go_wp2
          go_roundg r.length
          case measure => omega
          case rel => exact ⟨r, Nat.le_refl _, by omega, HP2.out, HG2.out, HK2⟩
end Go.Proofs.YtjkiehmjffgnlaaGreatDoor

/-
  Parts of the walks and plain laws of layer 10, joined: XmlLaws4 XmlLaws5. Conditions: as each theorem states them.
-/
import Derived.Test.YtopogglcnnjdlaaGreatDoorXmlZ4
/-! XmlLaws4 -/
namespace Go.Proofs.YtopogglcnnjdlaaGreatDoor
set_option linter.unusedVariables false
set_option linter.unusedSimpArgs false

theorem cutB_at (c : UInt8) : ∀ (a b : List UInt8), c ∉ a → cutS [c] (a ++ c :: b) = some (a, b)
  | [], b, _ => by
    show (if [c].isPrefixOf (c :: b) = true then some ([], (c :: b).drop 1) else _) = _
    rw [if_pos (by simp [List.isPrefixOf])]
    rfl
  | x :: a, b, h => by
    have hx : (c == x) = false := by rw [beq_eq_false_iff_ne]; intro e; exact h (by rw [e]; simp)
    show (if [c].isPrefixOf (x :: (a ++ c :: b)) = true then _ else (cutS [c] (a ++ c :: b)).map fun p => (x :: p.1, p.2)) = _
    rw [if_neg (by simp [List.isPrefixOf, hx]), cutB_at c a b (fun hm => h (by simp [hm]))]
    rfl
theorem cut_none_of {c : UInt8} {w s : List UInt8} (hc : c ∈ w) (hs : c ∉ s) : cutS w s = none := by
  rcases h : cutS w s with _ | ⟨a, b⟩
  · rfl
  · exact absurd (by rw [cut_some h]; simp [hc]) hs
theorem lines_id : ∀ (s : List UInt8), (13 : UInt8) ∉ s → linesX s = s
  | [], _ => rfl
  | [c], h => by
    unfold linesX
    rw [if_neg (fun e => h (by simp [e]))]
  | c :: d :: r, h => by
    unfold linesX
    rw [if_neg (fun e => h (by simp [e])), lines_id (d :: r) (fun hm => h (by simp at hm ⊢; exact .inr hm))]
theorem addText_new {ks : List NodeT} {t : List UInt8} (ht : t ≠ []) (hk : ∀ n, ks.getLast? = some n → n.name ≠ []) : addText ks t = ks ++ [textN t] := by
  unfold addText
  rw [if_neg ht]
  split
  · rename_i x s a k hl
    exact absurd rfl (hk _ hl)
  · rfl
theorem addText_text (l : List NodeT) (x s : List UInt8) (asz : List AttrT) (k : List NodeT) {b : List UInt8} (hb : b ≠ []) : addText (l ++ [.mk x s [] asz k]) b = l ++ [.mk (x ++ b) s [] asz k] := by
  unfold addText
  rw [if_neg hb, List.getLast?_concat]
  simp only
  rw [List.dropLast_concat]
theorem addText_add (ks : List NodeT) (a b : List UInt8) : addText (addText ks a) b = addText ks (a ++ b) := by
  by_cases ha : a = []
  · subst ha; rfl
  by_cases hb : b = []
  · subst hb
    rw [List.append_nil]
    generalize addText ks a = q
    unfold addText
    rw [if_pos rfl]
  · have hab : a ++ b ≠ [] := by simp [ha]
    by_cases hk : ∀ n, ks.getLast? = some n → n.name ≠ []
    · rw [addText_new ha hk, addText_new hab hk]
      exact addText_text ks a [] [] [] hb
    · obtain ⟨n, hn, hnn⟩ : ∃ n, ks.getLast? = some n ∧ n.name = [] := by
        simp only [Classical.not_forall, Classical.not_not] at hk
        obtain ⟨n, h1, h2⟩ := hk
        exact ⟨n, h1, h2⟩
      obtain ⟨x, s, m, asz, k⟩ := n
      obtain rfl : m = [] := hnn
      obtain ⟨l, rfl⟩ := List.getLast?_eq_some_iff.1 hn
      rw [addText_text l x s asz k ha, addText_text l (x ++ a) s asz k hb, addText_text l x s asz k hab, List.append_assoc]
def rawT (c : UInt8) : Bool := !decide (c = 38 ∨ c = 60 ∨ c = 62 ∨ c = 13)
def rawV (c : UInt8) : Bool := !decide (c = 38 ∨ c = 60 ∨ c = 34 ∨ c = 9 ∨ c = 10 ∨ c = 13)
theorem escT_raw {c : UInt8} (h : rawT c = true) : escT c = [c] := by
  unfold rawT at h
  simp only [Bool.not_eq_true', decide_eq_false_iff_not, not_or] at h
  unfold escT
  rw [if_neg h.1, if_neg h.2.1, if_neg h.2.2.1, if_neg h.2.2.2]
theorem escV_raw {c : UInt8} (h : rawV c = true) : escV c = [c] := by
  unfold rawV at h
  simp only [Bool.not_eq_true', decide_eq_false_iff_not, not_or] at h
  unfold escV
  rw [if_neg h.1, if_neg h.2.1, if_neg h.2.2.1, if_neg h.2.2.2.1, if_neg h.2.2.2.2.1, if_neg h.2.2.2.2.2]
theorem flat_raw {f : UInt8 → List UInt8} {p : UInt8 → Bool} (hf : ∀ c, p c = true → f c = [c]) : ∀ u : List UInt8, (∀ c ∈ u, p c = true) → u.flatMap f = u
  | [], _ => rfl
  | c :: u, h => by
    rw [List.flatMap_cons, hf c (h c (by simp)), flat_raw hf u fun b hb => h b (by simp [hb])]
    rfl
theorem takeW_all (p : UInt8 → Bool) (s : List UInt8) : ∀ c ∈ s.takeWhile p, p c = true := by
  induction s with
  | nil => intro c h; simp at h
  | cons x s ih =>
    intro c h
    rw [List.takeWhile_cons] at h
    split at h
    · rename_i hx
      rcases List.mem_cons.1 h with rfl | h
      · exact hx
      · exact ih c h
    · simp at h
theorem dropW_head (p : UInt8 → Bool) (s : List UInt8) : s.dropWhile p = [] ∨ ∃ c q, s.dropWhile p = c :: q ∧ p c = false := by
  induction s with
  | nil => exact .inl rfl
  | cons x s ih =>
    rw [List.dropWhile_cons]
    by_cases hx : p x = true
    · rw [if_pos hx]; exact ih
    · rw [if_neg hx]
      exact .inr ⟨x, s, rfl, by simpa using hx⟩
/-- a run of bytes that are no stop, ahead of one. -/
theorem run_take {p : UInt8 → Bool} {u X : List UInt8} (hu : ∀ c ∈ u, p c = true) (hX : ∀ c q, X = c :: q → p c = false) : (u ++ X).takeWhile p = u ∧ (u ++ X).dropWhile p = X := by
  induction u with
  | nil =>
    rcases X with _ | ⟨c, q⟩
    · exact ⟨rfl, rfl⟩
    · have := hX c q rfl
      rw [List.nil_append, List.takeWhile_cons, List.dropWhile_cons, this]
      exact ⟨rfl, rfl⟩
  | cons x u ih =>
    obtain ⟨h1, h2⟩ := ih (fun c hc => hu c (by simp [hc]))
    rw [List.cons_append, List.takeWhile_cons, List.dropWhile_cons, if_pos (hu x (by simp)), if_pos (hu x (by simp)), h1, h2]
    exact ⟨rfl, rfl⟩
theorem refX_at {w t r : List UInt8} (h : (59 : UInt8) ∉ w) (hw : refW w = some t) : refX (w ++ 59 :: r) = some (t, r) := by
  unfold refX
  rw [cutB_at 59 w r h, thenX_mk, hw]
theorem ref_escT {c : UInt8} (h : rawT c = false) (r : List UInt8) : ∃ q, escT c ++ r = 38 :: q ∧ refX q = some ([c], r) := by
  unfold rawT at h
  simp only [Bool.not_eq_false', decide_eq_true_eq] at h
  rcases h with rfl | rfl | rfl | rfl
  · exact ⟨[97, 109, 112] ++ 59 :: r, rfl, refX_at (by decide) (by decide +kernel)⟩
  · exact ⟨[108, 116] ++ 59 :: r, rfl, refX_at (by decide) (by decide +kernel)⟩
  · exact ⟨[103, 116] ++ 59 :: r, rfl, refX_at (by decide) (by decide +kernel)⟩
  · exact ⟨[35, 49, 51] ++ 59 :: r, rfl, refX_at (by decide) (by decide +kernel)⟩
theorem ref_escV {c : UInt8} (h : rawV c = false) (r : List UInt8) : ∃ q, escV c ++ r = 38 :: q ∧ refX q = some ([c], r) := by
  unfold rawV at h
  simp only [Bool.not_eq_false', decide_eq_true_eq] at h
  rcases h with rfl | rfl | rfl | rfl | rfl | rfl
  · exact ⟨[97, 109, 112] ++ 59 :: r, rfl, refX_at (by decide) (by decide +kernel)⟩
  · exact ⟨[108, 116] ++ 59 :: r, rfl, refX_at (by decide) (by decide +kernel)⟩
  · exact ⟨[113, 117, 111, 116] ++ 59 :: r, rfl, refX_at (by decide) (by decide +kernel)⟩
  · exact ⟨[35, 57] ++ 59 :: r, rfl, refX_at (by decide) (by decide +kernel)⟩
  · exact ⟨[35, 49, 48] ++ 59 :: r, rfl, refX_at (by decide) (by decide +kernel)⟩
  · exact ⟨[35, 49, 51] ++ 59 :: r, rfl, refX_at (by decide) (by decide +kernel)⟩
theorem escV_len (c : UInt8) : 1 ≤ (escV c).length := by
  unfold escV
  repeat' split
  all_goals simp
theorem flat_len {f : UInt8 → List UInt8} (hf : ∀ c, 1 ≤ (f c).length) : ∀ v : List UInt8, v.length ≤ (v.flatMap f).length
  | [] => Nat.le_refl _
  | c :: v => by
    have := flat_len hf v
    have := hf c
    rw [List.flatMap_cons, List.length_append, List.length_cons]
    omega
/-- a value is read asz it was written. -/
theorem valIn_esc : ∀ (n : Nat) (v out : List UInt8) (f : Nat), v.length ≤ n → (v.flatMap escV).length < f → valIn f out (v.flatMap escV) = some (out ++ v)
  | n, v, out, 0, _, hf => absurd hf (Nat.not_lt_zero _)
  | n, v, out, f + 1, h, hf => by
    by_cases hv : v = []
    · subst hv
      rw [List.flatMap_nil]
      unfold valIn
      rw [if_pos rfl, List.append_nil]
    · have hne : v.flatMap escV ≠ [] := by
        intro e
        have := flat_len escV_len v
        rw [e] at this
        exact hv (List.eq_nil_of_length_eq_zero (by simpa using this))
      have e : v = v.takeWhile rawV ++ v.dropWhile rawV := (List.takeWhile_append_dropWhile).symm
      have hall := takeW_all rawV v
      have hns : ∀ c : UInt8, rawV c = true → (!stopC c) = true ∧ c ≠ 13 ∧ flatC c = c := fun c hc => by
        unfold rawV at hc
        simp only [Bool.not_eq_true', decide_eq_false_iff_not, not_or] at hc
        refine ⟨by simp [stopC, hc.1, hc.2.1], hc.2.2.2.2.2, by simp [flatC, hc.2.2.2.1, hc.2.2.2.2.1]⟩
      have hl13 : (13 : UInt8) ∉ v.takeWhile rawV := fun hm => (hns _ (hall _ hm)).2.1 rfl
      have hmap : (linesX (v.takeWhile rawV)).map flatC = v.takeWhile rawV := by
        rw [lines_id _ hl13]
        conv => rhs; rw [← List.map_id (v.takeWhile rawV)]
        exact List.map_congr_left fun c hc => (hns c (hall c hc)).2.2
      unfold valIn
      rw [if_neg hne]
      rcases dropW_head rawV v with hd | ⟨c, q, hd, hc⟩
      · rw [hd, List.append_nil] at e
        have e2 : v.flatMap escV = v.takeWhile rawV := by
          conv => lhs; rw [e]
          exact flat_raw (fun c => escV_raw) _ hall
        rw [e2]
        obtain ⟨r1, r2⟩ := run_take (p := fun c => !stopC c) (u := v.takeWhile rawV) (X := []) (fun c hc => (hns c (hall c hc)).1) (fun c q h => by cases h)
        rw [List.append_nil] at r1 r2
        rw [r2]
        simp only
        rw [hmap, ← e]
      · rw [hd] at e
        obtain ⟨y, hy, hr⟩ := ref_escV hc (q.flatMap escV)
        have e2 : v.flatMap escV = v.takeWhile rawV ++ 38 :: y := by
          conv => lhs; rw [e]
          rw [List.flatMap_append, flat_raw (fun c => escV_raw) _ hall, List.flatMap_cons, hy]
        rw [e2]
        obtain ⟨r1, r2⟩ := run_take (p := fun c => !stopC c) (u := v.takeWhile rawV) (X := 38 :: y) (fun c hc => (hns c (hall c hc)).1) (fun c q h => by injection h with h _; subst h; decide)
        rw [r1, r2]
        simp only
        rw [if_pos trivial, hr]
        simp only
        have hlv : q.length < v.length := by
          have := congrArg List.length e
          rw [List.length_append, List.length_cons] at this
          omega
        have hlf : (q.flatMap escV).length < f := by
          have h1 := (refX_ok hr).1
          rw [e2, List.length_append, List.length_cons] at hf
          omega
        cases n with
        | zero => omega
        | succ n =>
          rw [valIn_esc n q _ f (by omega) hlf, hmap]
          conv => rhs; rw [e]
          simp
theorem escV_no (v : List UInt8) : (34 : UInt8) ∉ v.flatMap escV := by
  intro h
  obtain ⟨c, -, hc⟩ := List.mem_flatMap.1 h
  by_cases hr : rawV c = true
  · rw [escV_raw hr] at hc
    rw [← List.mem_singleton.1 hc] at hr
    revert hr; decide
  · have := (u8_allX (fun c => rawV c || !(escV c).contains 34) (by decide +kernel) c)
    simp [hr] at this
    exact this hc
theorem value_read (v r : List UInt8) : valueX (34 :: (v.flatMap escV ++ 34 :: r)) = some (v, r) := by
  unfold valueX
  have h1 : eatX [39] (34 :: (v.flatMap escV ++ 34 :: r)) = none := by
    unfold eatX
    rw [if_neg]
    simp [List.isPrefixOf]
  have h2 : eatX [34] (34 :: (v.flatMap escV ++ 34 :: r)) = some ((), v.flatMap escV ++ 34 :: r) := eatX_app [34] _
  rw [h1]
  simp only
  rw [h2, thenX_mk, cutB_at 34 _ r (escV_no v), thenX_mk, valIn_esc v.length v [] _ (Nat.le_refl _) (Nat.lt_succ_self _)]
  rfl
/-- a name is read asz it was written. -/
theorem nameOk_all {n : List UInt8} (h : nameOk n = true) : ∀ c ∈ n, othC c = true := by
  cases n with
  | nil => cases h
  | cons x n =>
    unfold nameOk at h
    rw [Bool.and_eq_true, List.all_eq_true] at h
    exact h.2
theorem name_read {n r : List UInt8} (h : nameOk n = true) (hr : ∀ c q, r = c :: q → othC c = false) : nameX (n ++ r) = some (n, r) := by
  obtain ⟨h1, h2⟩ := run_take (nameOk_all h) hr
  unfold nameX
  rw [h1, h2, if_pos h]
theorem qname_read {n r : List UInt8} (h : nameOk n = true) (hr : ∃ c q, r = c :: q ∧ othC c = false ∧ c ≠ 58) : qnameX (n ++ r) = some (([], n), r) := by
  obtain ⟨c, q, rfl, h1, h2⟩ := hr
  unfold qnameX
  rw [name_read h (fun c' q' e => by injection e with e _; rw [← e]; exact h1), thenX_mk]
  have : eatX [58] (c :: q) = none := by
    unfold eatX
    rw [if_neg]
    simp [List.isPrefixOf, Ne.symm h2]
  rw [this]
theorem name_head {n : List UInt8} (h : nameOk n = true) : ∃ c q, n = c :: q ∧ firC c = true := by
  cases n with
  | nil => cases h
  | cons x n =>
    unfold nameOk at h
    rw [Bool.and_eq_true] at h
    exact ⟨x, n, rfl, h.1⟩
theorem fir_no {c : UInt8} (h : firC c = true) : whC c = false ∧ c ≠ 62 ∧ c ≠ 47 ∧ c ≠ 60 ∧ c ≠ 33 ∧ c ≠ 63 ∧ c ≠ 38 := by
  have := u8_allX (fun c => !firC c || (!whC c && !decide (c = 62) && !decide (c = 47) && !decide (c = 60) && !decide (c = 33) && !decide (c = 63) && !decide (c = 38))) (by decide +kernel) c
  simp [h] at this
  exact ⟨this.1.1.1.1.1.1, this.1.1.1.1.1.2, this.1.1.1.1.2, this.1.1.1.2, this.1.1.2, this.1.2, this.2⟩
theorem xwhite_no {c : UInt8} (h : whC c = false) (q : List UInt8) : whiteX (c :: q) = c :: q := by
  unfold whiteX
  rw [List.dropWhile_cons, h]
  rfl
/-- one attribute, whatever its name. -/
theorem attr_read {n v r : List UInt8} (h : nameOk n = true) (f : Nat) (seen : List (List UInt8)) (out : List AttrT) (sc : Scope) (hs : 58 :: n ∉ seen) :
    attrsX (f + 1) seen out sc (32 :: (n ++ ([61, 34] ++ (v.flatMap escV ++ (34 :: r))))) =
      if n = wXmlns then attrsX f ((58 :: n) :: seen) out (([], v) :: sc) r else attrsX f ((58 :: n) :: seen) (out ++ [⟨n, v⟩]) sc r := by
  obtain ⟨c, q, e, hc⟩ := name_head h
  obtain ⟨c1, c2, c3, -⟩ := fir_no hc
  have hw : whiteX (32 :: (n ++ ([61, 34] ++ (v.flatMap escV ++ (34 :: r))))) = n ++ ([61, 34] ++ (v.flatMap escV ++ (34 :: r))) := by
    unfold whiteX
    rw [List.dropWhile_cons, if_pos (by decide)]
    rw [e]
    exact xwhite_no c1 _
  have hq := qname_read (n := n) (r := [61, 34] ++ (v.flatMap escV ++ (34 :: r))) h ⟨61, _, rfl, by decide, by decide⟩
  rw [attr_step, hw, if_pos, hq, thenX_mk]
  · have w1 : whiteX ([61, 34] ++ (v.flatMap escV ++ (34 :: r))) = [61] ++ (34 :: (v.flatMap escV ++ (34 :: r))) := xwhite_no (by decide) _
    have w2 : whiteX (34 :: (v.flatMap escV ++ (34 :: r))) = 34 :: (v.flatMap escV ++ (34 :: r)) := xwhite_no (by decide) _
    rw [w1, eatX_app, thenX_mk, w2, value_read, thenX_mk]
    simp only [List.nil_append]
    rw [if_neg hs]
    by_cases hx : n = wXmlns
    · rw [if_pos ⟨trivial, hx⟩, if_pos hx]
    · rw [if_neg (fun hh => hx hh.2), if_neg hx, if_neg (by decide), if_neg (by simp)]
  · refine ⟨by simp, ?_, ?_⟩
    · rw [e]
      simp [List.isPrefixOf, Ne.symm c2]
    · rw [e]
      simp [List.isPrefixOf, Ne.symm c3]
theorem attrs_read : ∀ (asz : List AttrT) (names : List (List UInt8)) (seen : List (List UInt8)) (out : List AttrT) (sc : Scope) (r : List UInt8) (f : Nat), attrsOk names asz = true → (∀ n, 58 :: n ∈ seen → n = wXmlns ∨ n ∈ names) →
    (∃ c q, r = c :: q ∧ whC c = false) → asz.length < f → attrsX f seen out sc (asz.flatMap attrF ++ r) = some ((out ++ asz, sc), r)
  | asz, _, _, _, _, _, 0, _, _, _, hf => absurd hf (Nat.not_lt_zero _)
  | [], names, seen, out, sc, r, f + 1, _, _, hr, _ => by
    obtain ⟨c, q, rfl, hc⟩ := hr
    rw [attr_step, List.flatMap_nil, List.nil_append, xwhite_no hc, if_neg (by intro h; exact absurd h.1 (Nat.lt_irrefl _)), List.append_nil]
  | a :: asz, names, seen, out, sc, r, f + 1, h, hs, hr, hf => by
    obtain ⟨h1, h2, h3, h4, h5⟩ := attrsOk_cons h
    have e : (a :: asz).flatMap attrF ++ r = 32 :: (a.name ++ ([61, 34] ++ (a.value.flatMap escV ++ (34 :: (asz.flatMap attrF ++ r))))) := by
      rw [List.flatMap_cons]
      unfold attrF
      simp
    rw [e, attr_read (short_parts h1).1 f seen out sc (fun hm => by rcases hs _ hm with h | h; exact h2 h; exact h3 h), if_neg h2,
      attrs_read asz (a.name :: names) _ _ sc r f h5 (fun n hn => by
        rcases List.mem_cons.1 hn with hn | hn
        · injection hn with _ hn
          exact .inr (by rw [hn]; simp)
        · exact (hs n hn).imp id fun h => by simp [h]) hr (by simpa using hf)]
    simp
end Go.Proofs.YtopogglcnnjdlaaGreatDoor
/-! XmlLaws5 -/
namespace Go.Proofs.YtopogglcnnjdlaaGreatDoor
set_option linter.unusedVariables false
set_option linter.unusedSimpArgs false

/-- what follows a text's form begins with '<'. -/
def ltH (s : List UInt8) : Prop := ∃ q, s = 60 :: q
theorem plainH_raw {c : UInt8} (h : c ≠ 60) (q : List UInt8) : plainH (c :: q) := ⟨c, q, rfl, .inl h⟩
theorem hasEnd_raw {u : List UInt8} (h : (62 : UInt8) ∉ u) : hasEnd u = false := by
  unfold hasEnd
  rw [cut_none_of (c := 62) (by decide) h]
  rfl
theorem cont_ref {q t r : List UInt8} (h : refX q = some (t, r)) (sc : Scope) (ks : List NodeT) : contX sc ks (38 :: q) = contX sc (addText ks t) r := by
  obtain ⟨t1, t2, t3, t4⟩ := (plainH_raw (c := 38) (by decide) q).tests
  rw [contX_eq, if_neg (by rw [t1]; simp), if_neg t2, t3, t4]
  simp only
  rw [if_neg (by simp), if_pos (by simp), List.tail_cons, h, thenX_mk]
theorem cont_run {u X : List UInt8} (hu : ∀ c ∈ u, rawT c = true) (hne : u ≠ []) (hX : ∃ c q, X = c :: q ∧ stopC c = true) (sc : Scope) (ks : List NodeT) : contX sc ks (u ++ X) = contX sc (addText ks u) X := by
  have hraw : ∀ c : UInt8, rawT c = true → (!stopC c) = true ∧ c ≠ 13 ∧ c ≠ 62 ∧ c ≠ 60 ∧ c ≠ 38 := fun c hc => by
    unfold rawT at hc
    simp only [Bool.not_eq_true', decide_eq_false_iff_not, not_or] at hc
    exact ⟨by simp [stopC, hc.1, hc.2.1], hc.2.2.2, hc.2.2.1, hc.2.1, hc.1⟩
  obtain ⟨x, u', rfl⟩ := List.exists_cons_of_ne_nil hne
  obtain ⟨x1, -, -, x4, x5⟩ := hraw x (hu x (by simp))
  obtain ⟨c, q, rfl, hc⟩ := hX
  obtain ⟨t1, t2, t3, t4⟩ := (plainH_raw x4 (u' ++ c :: q)).tests
  obtain ⟨r1, r2⟩ := run_take (p := fun c => !stopC c) (u := x :: u') (X := c :: q) (fun c hc => (hraw c (hu c hc)).1) (fun c' q' e => by injection e with e _; rw [← e, hc]; rfl)
  rw [contX_eq, List.cons_append, if_neg (by rw [t1]; simp), if_neg t2, t3, t4]
  simp only
  rw [← List.cons_append, r1, r2, if_neg (by simp [x4]), if_neg (by simp [x5]), if_neg, lines_id _ (fun hm => (hraw _ (hu _ hm)).2.1 rfl)]
  rintro (h | h)
  · simp at h
  · rw [hasEnd_raw (fun hm => (hraw _ (hu _ hm)).2.2.1 rfl)] at h; cases h
theorem cont_text : ∀ (n : Nat) (t : List UInt8) (sc : Scope) (ks : List NodeT) (r : List UInt8), t.length ≤ n → ltH r → contX sc ks (t.flatMap escT ++ r) = contX sc (addText ks t) r
  | 0, t, sc, ks, r, h, _ => by
    have : t = [] := List.eq_nil_of_length_eq_zero (by omega)
    subst this
    rfl
  | n + 1, t, sc, ks, r, h, hr => by
    have e : t = t.takeWhile rawT ++ t.dropWhile rawT := (List.takeWhile_append_dropWhile).symm
    have hall := takeW_all rawT t
    have step : ∀ X : List UInt8, (∃ c q, X = c :: q ∧ stopC c = true) → contX sc ks (t.takeWhile rawT ++ X) = contX sc (addText ks (t.takeWhile rawT)) X := fun X hX => by
      by_cases hu : t.takeWhile rawT = []
      · rw [hu]; rfl
      · exact cont_run hall hu hX sc ks
    rcases dropW_head rawT t with hd | ⟨c, q, hd, hc⟩
    · rw [hd, List.append_nil] at e
      have e2 : t.flatMap escT = t.takeWhile rawT := by
        conv => lhs; rw [e]
        exact flat_raw (fun c => escT_raw) _ hall
      obtain ⟨q, rfl⟩ := hr
      rw [e2, step _ ⟨60, q, rfl, by decide⟩, ← e]
    · rw [hd] at e
      obtain ⟨y, hy, hf⟩ := ref_escT hc (q.flatMap escT ++ r)
      have e2 : t.flatMap escT ++ r = t.takeWhile rawT ++ 38 :: y := by
        rw [← hy]
        conv => lhs; rw [e]
        rw [List.flatMap_append, flat_raw (fun c => escT_raw) _ hall, List.flatMap_cons]
        simp
      have hl := congrArg List.length e
      rw [List.length_append, List.length_cons] at hl
      rw [e2, step _ ⟨38, y, rfl, by decide⟩, cont_ref hf, cont_text n q sc _ r (by omega) hr, addText_add, addText_add]
      conv => rhs; rw [e]
      simp
theorem noTwo_cons {a : NodeT} {r : List NodeT} (h : noTwo (a :: r) = true) : noTwo r = true ∧ (a.name = [] → ∀ b q, r = b :: q → b.name ≠ []) := by
  cases r with
  | nil => exact ⟨rfl, fun _ b q e => by cases e⟩
  | cons b q =>
    unfold noTwo at h
    simp only [Bool.and_eq_true, Bool.or_eq_true, Bool.not_eq_true', decide_eq_false_iff_not] at h
    refine ⟨h.2, fun ha b' q' e => ?_⟩
    injection e with e _
    subst e
    exact h.1.resolve_left (fun hn => hn ha)
/-- a list's form, with an end behind it, begins with '<', if its first is no text. -/
theorem formL_lt {up : List UInt8} {ks : List NodeT} (h : ∀ b q, ks = b :: q → b.name ≠ []) (r : List UInt8) : ltH (formL up ks ++ 60 :: r) := by
  cases ks with
  | nil => exact ⟨r, by unfold formL; rfl⟩
  | cons k q =>
    obtain ⟨t, s, n, asz, kk⟩ := k
    have hn : n ≠ [] := h _ q rfl
    unfold formL formN
    rw [if_neg hn]
    unfold headF
    exact ⟨_, rfl⟩
/-- what an element's form says of its namespace. -/
def scopeF (sc : Scope) (s up : List UInt8) : Scope := if s = up then sc else ([], s) :: sc
theorem find_scope {sc : Scope} {s up : List UInt8} (h : findX sc [] = some up) : findX (scopeF sc s up) [] = some s := by
  unfold scopeF
  split
  · rename_i e; rw [e]; exact h
  · unfold findX; rw [if_pos rfl]
/-- the head of an element: its attributes, and the namespaces behind them. -/
theorem head_read {s n up : List UInt8} {asz : List AttrT} {sc : Scope} (h2 : attrsOk [] asz = true) (r : List UInt8) (hr : ∃ c q, r = c :: q ∧ whC c = false ∧ othC c = false ∧ c ≠ 58) :
    ∃ r0, (∃ c q, r0 = c :: q ∧ othC c = false ∧ c ≠ 58) ∧ headF s n asz up ++ r = 60 :: (n ++ r0) ∧ attrsX (r0.length + 1) [] [] sc r0 = some ((asz, scopeF sc s up), r) := by
  obtain ⟨c, q, rfl, hc, ho, h58⟩ := hr
  have hlen : ∀ asz : List AttrT, asz.length ≤ (asz.flatMap attrF).length := fun asz => by
    induction asz with
    | nil => exact Nat.le_refl _
    | cons a asz ih =>
      have h1 : 1 ≤ (attrF a).length := by unfold attrF; simp
      rw [List.flatMap_cons, List.length_append, List.length_cons]
      omega
  have hl := hlen asz
  unfold headF scopeF
  by_cases he : s = up
  · rw [if_pos he, if_pos he]
    refine ⟨asz.flatMap attrF ++ c :: q, ?_, by simp, ?_⟩
    · cases asz with
      | nil => exact ⟨c, q, rfl, ho, h58⟩
      | cons a asz => exact ⟨32, _, rfl, by decide, by decide⟩
    · exact attrs_read asz [] [] [] sc (c :: q) _ h2 (fun n hn => by cases hn) ⟨c, q, rfl, hc⟩ (by rw [List.length_append]; omega)
  · rw [if_neg he, if_neg he]
    refine ⟨32 :: (wXmlns ++ ([61, 34] ++ (s.flatMap escV ++ (34 :: (asz.flatMap attrF ++ c :: q))))), ⟨32, _, rfl, by decide, by decide⟩, by simp [wXmlns], ?_⟩
    rw [attr_read (by decide) _ _ _ _ (by simp), if_pos rfl]
    rw [attrs_read asz [] [58 :: wXmlns] [] (([], s) :: sc) (c :: q) _ h2 (fun n hn => by
      rw [List.mem_singleton] at hn
      injection hn with _ hn
      exact .inl hn) ⟨c, q, rfl, hc⟩ (by simp only [List.length_cons, List.length_append]; omega)]
    rfl
theorem word_take {n r0 : List UInt8} : (n ++ r0).take ((n ++ r0).length - r0.length) = n := by
  rw [List.length_append, Nat.add_sub_cancel, List.take_append_of_le_length (Nat.le_refl _), List.take_length]
mutual
theorem elem_read : ∀ (k : NodeT) (d : Nat) (up : List UInt8) (sc : Scope) (r : List UInt8), goodN d k = true → k.name ≠ [] → findX sc [] = some up → elemX sc (formN up k ++ r) = some (k, r)
  | .mk t s n asz ks, d, up, sc, r, hg, hn0, hsc => by
    have hn : n ≠ [] := hn0
    obtain ⟨-, rfl, h3, -, -, h6, h7, h8⟩ := goodN_elem hn hg
    have hnn := (short_parts h3).1
    unfold formN
    rw [if_neg hn]
    by_cases hk : ks = []
    · subst hk
      rw [if_pos (show ([] : List NodeT).isEmpty = true from rfl), List.append_assoc]
      obtain ⟨r0, h0, e1, e2⟩ := head_read (s := s) (n := n) (up := up) (sc := sc) h6 ([47, 62] ++ r) ⟨47, _, rfl, by decide, by decide, by decide⟩
      rw [e1, elemX_eq, show eatX [60] (60 :: (n ++ r0)) = some ((), n ++ r0) from eatX_app [60] _, thenX_mk, qname_read hnn h0, thenX_mk, e2, thenX_mk]
      simp only
      rw [find_scope hsc]
      simp only
      rw [eatX_app]
    · rw [if_neg (by simpa using hk), List.append_assoc]
      obtain ⟨r0, h0, e1, e2⟩ := head_read (s := s) (n := n) (up := up) (sc := sc) h6 (62 :: (formL s ks ++ ([60, 47] ++ (n ++ [62]))) ++ r) ⟨62, _, rfl, by decide, by decide, by decide⟩
      have hno : eatX [47, 62] (62 :: (formL s ks ++ ([60, 47] ++ (n ++ [62]))) ++ r) = none := by
        unfold eatX
        rw [if_neg]
        simp [List.isPrefixOf]
      have h62 : eatX [62] (62 :: (formL s ks ++ ([60, 47] ++ (n ++ [62]))) ++ r) = some ((), formL s ks ++ 60 :: 47 :: (n ++ 62 :: r)) := by
        rw [show 62 :: (formL s ks ++ ([60, 47] ++ (n ++ [62]))) ++ r = [62] ++ (formL s ks ++ 60 :: 47 :: (n ++ 62 :: r)) by simp, eatX_app]
      rw [e1, elemX_eq, show eatX [60] (60 :: (n ++ r0)) = some ((), n ++ r0) from eatX_app [60] _, thenX_mk, qname_read hnn h0, thenX_mk, e2, thenX_mk]
      simp only
      rw [find_scope hsc]
      simp only
      rw [hno]
      simp only
      rw [h62, thenX_mk, cont_read ks (d + 1) s (scopeF sc s up) [] (n ++ 62 :: r) h8 h7 (find_scope hsc) (fun a ha => by cases ha), thenX_mk,
        show eatX [60, 47] (60 :: 47 :: (n ++ 62 :: r)) = some ((), n ++ 62 :: r) from eatX_app [60, 47] _, thenX_mk, word_take, eatX_app, thenX_mk, xwhite_no (by decide), show eatX [62] (62 :: r) = some ((), r) from eatX_app [62] _, thenX_mk]
      rfl
theorem cont_read : ∀ (ks : List NodeT) (d : Nat) (up : List UInt8) (sc : Scope) (acc : List NodeT) (r : List UInt8), goodL d ks = true → noTwo ks = true → findX sc [] = some up →
    (∀ a, acc.getLast? = some a → a.name = [] → ∀ b q, ks = b :: q → b.name ≠ []) → contX sc acc (formL up ks ++ 60 :: 47 :: r) = some (acc ++ ks, 60 :: 47 :: r)
  | [], d, up, sc, acc, r, _, _, _, _ => by
    unfold formL
    rw [List.nil_append, contX_eq, if_pos (by simp [List.isPrefixOf]), List.append_nil]
  | k :: ks, d, up, sc, acc, r, hg, h2, hsc, hacc => by
    obtain ⟨hg1, hg2⟩ := goodL_cons hg
    obtain ⟨h3, h4⟩ := noTwo_cons h2
    have e : formL up (k :: ks) ++ 60 :: 47 :: r = formN up k ++ (formL up ks ++ 60 :: 47 :: r) := by
      conv => lhs; unfold formL
      simp
    rw [e]
    by_cases hk : k.name = []
    · obtain ⟨t, s, n, asz, kk⟩ := k
      obtain ⟨g1, g2, rfl, rfl, rfl⟩ := goodN_text hk hg1
      obtain rfl : n = [] := hk
      have hf : formN up (.mk t [] [] [] []) = t.flatMap escT := by
        unfold formN
        rw [if_pos rfl]
      have hb := h4 rfl
      rw [hf, cont_text t.length t sc acc _ (Nat.le_refl _) (formL_lt hb _), addText_new g1 (fun a ha hn => hacc a ha hn _ _ rfl rfl),
        cont_read ks d up sc (acc ++ [textN t]) r hg2 h3 hsc (fun a ha hn b q hq => hb b q hq)]
      simp [textN]
    · have hx := elem_read k d up sc (formL up ks ++ 60 :: 47 :: r) hg1 hk hsc
      obtain ⟨c, q, hq, hc⟩ := elemX_head hx
      obtain ⟨t1, t2, t3, t4⟩ := (show plainH (formN up k ++ (formL up ks ++ 60 :: 47 :: r)) from ⟨60, c :: q, hq, .inr ⟨c, q, rfl, hc⟩⟩).tests
      rw [contX_eq, if_neg (by rw [t1]; simp), if_neg t2, t3, t4]
      simp only
      rw [if_pos (by rw [hq]; rfl), hx, thenX_mk, cont_read ks d up sc (acc ++ [k]) r hg2 h3 hsc (fun a ha hn => by
        rw [List.getLast?_concat] at ha
        injection ha with ha
        rw [← ha] at hn
        exact absurd hn hk)]
      simp
end
theorem misc_plain {s : List UInt8} (h : plainH s) (hw : whiteX s = s) (f : Nat) : miscX (f + 1) s = some ((), s) := by
  unfold miscX
  rw [hw, if_neg (Nat.lt_irrefl _), h.tests.2.2.1]
theorem misc_nil (f : Nat) : miscX (f + 1) [] = some ((), []) := rfl
theorem goodT_parts {n : NodeT} (h : goodT n = true) : goodN 0 n = true ∧ countN n ≤ 4096 ∧ n.name ≠ [] := by
  unfold goodT at h
  simp only [Bool.and_eq_true, decide_eq_true_eq, Bool.not_eq_true', decide_eq_false_iff_not] at h
  exact ⟨h.1.1, h.1.2, h.2⟩
/-- P10.3: what is written is read asz it was. -/
theorem parse_form {n : NodeT} (h : goodT n = true) (hl : (formN [] n).length ≤ 65536) : parseX (formN [] n) = .ok n := by
  obtain ⟨h1, -, h3⟩ := goodT_parts h
  have he := elem_read n 0 [] [] [] h1 h3 rfl
  rw [List.append_nil] at he
  obtain ⟨c, q, hq, hc⟩ := elemX_head he
  obtain ⟨c1, -, -, -, -, c6, -⟩ := fir_no hc
  have hp : plainH (formN [] n) := ⟨60, c :: q, hq, .inr ⟨c, q, rfl, hc⟩⟩
  have hw : whiteX (formN [] n) = formN [] n := by rw [hq]; exact xwhite_no (by decide) _
  have hno : [60, 63, 120, 109, 108].isPrefixOf (formN [] n) = false := by
    rw [hq]
    simp [List.isPrefixOf, Ne.symm c6]
  unfold parseX
  rw [if_neg (by omega), letters_form n 0 [] h1, if_neg (by simp), hno]
  simp only [Bool.false_and, Bool.false_eq_true, if_false]
  rw [misc_plain hp hw, thenX_mk, show elemF (2 * (formN [] n).length + 1) [] (formN [] n) = elemX [] (formN [] n) from rfl, he, thenX_mk, misc_nil, thenX_mk, if_pos rfl]
  simp only
  rw [if_pos h]
end Go.Proofs.YtopogglcnnjdlaaGreatDoor

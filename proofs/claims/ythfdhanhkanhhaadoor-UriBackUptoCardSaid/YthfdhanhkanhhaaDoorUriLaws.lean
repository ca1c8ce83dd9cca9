/-
  Plain laws of layer 9: what is written is read; what is read is good; nobody climbs out of the root; to stand within is an order. No program in sight.
-/
import Derived.Test.YthfdhanhkanhhaaDoorUriPlain
import Derived.Test.YthfdhanhkanhhaaDoorSplit
import Derived.Test.YthfdhanhkanhhaaDoorUriJ
namespace Go.Proofs.YthfdhanhkanhhaaDoor

/-! within -/
theorem within_refl (a : List (List UInt8)) : withinS a a = true := by
  unfold withinS; rw [List.isPrefixOf_iff_prefix]; exact List.prefix_refl a
theorem within_trans {a b c : List (List UInt8)} (h1 : withinS a b = true) (h2 : withinS b c = true) : withinS a c = true := by
  unfold withinS at *; rw [List.isPrefixOf_iff_prefix] at *; exact h2.trans h1
theorem within_anti {a b : List (List UInt8)} (h1 : withinS a b = true) (h2 : withinS b a = true) : a = b := by
  unfold withinS at *; rw [List.isPrefixOf_iff_prefix] at *
  exact (h1.eq_of_length (Nat.le_antisymm h1.length_le h2.length_le)).symm
theorem within_nil (a : List (List UInt8)) : withinS a [] = true := by unfold withinS; simp [List.isPrefixOf]

/-! digits -/
/-- h writes digits. -/
def Digs (h : Nat → UInt8) : Prop := ∀ n, n < 16 → digV (h n).toNat = n ∧ seenB (h n).toNat = true ∧ h n ≠ 47
theorem digs_up : Digs hexU := by
  intro n hn
  have key : ∀ m : Fin 16, digV (hexU m.val).toNat = m.val ∧ seenB (hexU m.val).toNat = true ∧ hexU m.val ≠ 47 := by decide +kernel
  exact key ⟨n, hn⟩
theorem hex_back {h : Nat → UInt8} (H : Digs h) (c : UInt8) : hexByte (h (c.toNat / 16)) (h (c.toNat % 16)) = c := by
  have hc := c.toNat_lt
  have h1 := (H (c.toNat / 16) (by omega)).1
  have h2 := (H (c.toNat % 16) (by omega)).1
  unfold hexByte
  rw [h1, h2]
  apply UInt8.toNat_inj.1
  rw [UInt8.toNat_ofNat']
  simp only [Int.toNat_natCast]
  omega
theorem dec_pct {h : Nat → UInt8} (H : Digs h) (c : UInt8) (r : List UInt8) : decS (37 :: h (c.toNat / 16) :: h (c.toNat % 16) :: r) = (decS r).map (c :: ·) := by
  have hc := c.toNat_lt
  have h1 := (H (c.toNat / 16) (by omega)).1
  have h2 := (H (c.toNat % 16) (by omega)).1
  rw [decS_pct, if_neg (by omega), hex_back H]
theorem bare_ne (c : UInt8) (h : bareB c.toNat = true) : c ≠ 37 ∧ c ≠ 47 ∧ seenB c.toNat = true := by
  have key : ∀ m : Fin 256, bareB ((m.val : Nat) : Int) = true → m.val ≠ 37 ∧ m.val ≠ 47 ∧ seenB ((m.val : Nat) : Int) = true := by decide +kernel
  have := key ⟨c.toNat, c.toNat_lt⟩ h
  exact ⟨fun e => this.1 (by rw [e]; rfl), fun e => this.2.1 (by rw [e]; rfl), this.2.2⟩
theorem dec_encB (c : UInt8) (r : List UInt8) : decS (encB c ++ r) = (decS r).map (c :: ·) := by
  unfold encB
  cases hb : bareB c.toNat with
  | true => exact decS_cons c r (bare_ne c hb).1
  | false => exact dec_pct digs_up c r
theorem dec_enc (s r : List UInt8) : decS (encS s ++ r) = (decS r).map (s ++ ·) := by
  induction s with
  | nil => simp [encS]
  | cons c s ih =>
    have : encS (c :: s) ++ r = encB c ++ (encS s ++ r) := by simp [encS]
    rw [this, dec_encB, ih]
    cases decS r <;> simp
theorem dec_enc' (s : List UInt8) : decS (encS s) = some s := by
  have := dec_enc s []
  rw [List.append_nil] at this
  rw [this]; simp [decS]
theorem say_enc (s : List UInt8) : sayS (encS s) = (s, goodBytes s) := by unfold sayS; rw [dec_enc']
theorem encB_seen (c : UInt8) : ∀ x ∈ encB c, seenB x.toNat = true ∧ x ≠ 47 := by
  have hc := c.toNat_lt
  unfold encB
  cases hb : bareB c.toNat with
  | true => intro x hx; simp at hx; subst hx; exact ⟨(bare_ne x hb).2.2, (bare_ne x hb).2.1⟩
  | false =>
    have h1 := digs_up (c.toNat / 16) (by omega)
    have h2 := digs_up (c.toNat % 16) (by omega)
    intro x hx
    simp at hx
    rcases hx with rfl | rfl | rfl
    · exact ⟨by decide, by decide⟩
    · exact h1.2
    · exact h2.2
theorem enc_seen (s : List UInt8) : ∀ x ∈ encS s, seenB x.toNat = true ∧ x ≠ 47 := by
  intro x hx
  unfold encS at hx
  obtain ⟨c, _, hc⟩ := List.mem_flatMap.1 hx
  exact encB_seen c x hc
theorem encB_len (c : UInt8) : (encB c).length ≤ 3 := by unfold encB; split <;> simp
theorem enc_len (s : List UInt8) : (encS s).length ≤ 3 * s.length := by
  induction s with
  | nil => simp [encS]
  | cons c s ih =>
    have := encB_len c
    have e : encS (c :: s) = encB c ++ encS s := by simp [encS]
    rw [e, List.length_append, List.length_cons]; omega

/-! pieces -/
theorem pieces_cons (x : UInt8) (r : List UInt8) (h : x ≠ 47) : piecesS (x :: r) = match piecesS r with
    | a :: t => (x :: a) :: t
    | [] => [[x]] := by rw [piecesS, if_neg h]; rfl
theorem pieces_one (s : List UInt8) (h : ∀ x ∈ s, x ≠ 47) : piecesS s = [s] := by
  induction s with
  | nil => rfl
  | cons x s ih =>
    have hx := h x (by simp)
    rw [pieces_cons _ _ hx, ih (fun y hy => h y (by simp [hy]))]
theorem pieces_app (s r : List UInt8) (h : ∀ x ∈ s, x ≠ 47) : piecesS (s ++ 47 :: r) = s :: piecesS r := by
  induction s with
  | nil => simp [piecesS]
  | cons x s ih =>
    have hx := h x (by simp)
    rw [List.cons_append]
    rw [pieces_cons _ _ hx, ih (fun y hy => h y (by simp [hy]))]
/-- a form behind a slash, and what begins with a slash behind it. -/
theorem pieces_form (s : List UInt8) (p : List (List UInt8)) (r : List UInt8) : piecesS (encS s ++ (formS p ++ 47 :: r)) = encS s :: (p.map encS ++ piecesS r) := by
  induction p generalizing s with
  | nil => simp only [formS, List.flatMap_nil, List.nil_append, List.map_nil]; exact pieces_app _ _ (fun x hx => (enc_seen s x hx).2)
  | cons q p ih =>
    have e : encS s ++ (formS (q :: p) ++ 47 :: r) = encS s ++ 47 :: (encS q ++ (formS p ++ 47 :: r)) := by simp [formS]
    rw [e, pieces_app _ _ (fun x hx => (enc_seen s x hx).2), ih]
    simp
theorem pieces_form' (s : List UInt8) (p : List (List UInt8)) : piecesS (encS s ++ formS p) = encS s :: p.map encS := by
  induction p generalizing s with
  | nil => simp only [formS, List.flatMap_nil, List.append_nil, List.map_nil]; exact pieces_one _ (fun x hx => (enc_seen s x hx).2)
  | cons q p ih =>
    have e : encS s ++ formS (q :: p) = encS s ++ 47 :: (encS q ++ formS p) := by simp [formS]
    rw [e, pieces_app _ _ (fun x hx => (enc_seen s x hx).2), ih]
    simp
theorem plain_app (a b : List UInt8) : plainS (a ++ b) = (plainS a && plainS b) := by unfold plainS; rw [List.all_append]
theorem plain_enc (s : List UInt8) : plainS (encS s) = true := by
  unfold plainS; rw [List.all_eq_true]; exact fun x hx => (enc_seen s x hx).1
theorem plain_form (p : List (List UInt8)) : plainS (formS p) = true := by
  induction p with
  | nil => rfl
  | cons s p ih =>
    have e : formS (s :: p) = 47 :: (encS s ++ formS p) := by simp [formS]
    rw [e, plainS_cons, plain_app, plain_enc, ih]; rfl

/-! going through pieces -/
theorem seg_facts {s : List UInt8} (h : segS s = true) : s ≠ [] ∧ s ≠ [46] ∧ s ≠ [46, 46] ∧ s.length ≤ 64 ∧ goodBytes s = true := by
  unfold segS at h
  rw [Bool.and_eq_true, decide_eq_true_eq] at h
  exact ⟨h.1.1, h.1.2.1, h.1.2.2.1, h.1.2.2.2, h.2⟩
theorem go_seg {s : List UInt8} (h : segS s = true) (ps path : List (List UInt8)) (d : Bool) : goS (encS s :: ps) path d = goS ps (path ++ [s]) false := by
  obtain ⟨h1, h2, h3, h4, h5⟩ := seg_facts h
  rw [goS, say_enc, h5, if_neg (by simp), if_neg (by simp only; omega), if_neg h3, if_neg (by rintro (e | e); exact h1 e; exact h2 e)]
theorem go_segs (p : List (List UInt8)) (h : p.all segS = true) : ∀ (ps path : List (List UInt8)) (d : Bool), goS (p.map encS ++ ps) path d = goS ps (path ++ p) (if p = [] then d else false) := by
  induction p with
  | nil => intro ps path d; simp
  | cons s p ih =>
    intro ps path d
    rw [List.all_cons, Bool.and_eq_true] at h
    rw [List.map_cons, List.cons_append, go_seg h.1, ih h.2]
    by_cases hp : p = [] <;> simp [hp]
theorem go_empty (ps path : List (List UInt8)) (d : Bool) : goS ([] :: ps) path d = goS ps path true := by
  rw [goS, show sayS [] = ([], true) from by decide, if_neg (by decide), if_neg (by decide), if_neg (by decide), if_pos (.inl rfl)]

/-! what begins with a slash -/
theorem parse_slash {t : List UInt8} (h : plainS (47 :: t) = true) : parseS (47 :: t) = goS (piecesS t) [] false := by
  have hl : localS (47 :: t) = some (47 :: t) := by unfold localS; rw [if_neg (by simp [httpS, List.isPrefixOf])]
  unfold parseS
  rw [hl]
  simp only
  rw [h]
  rfl
theorem good_facts {p : List (List UInt8)} (h : goodS p = true) : p.all segS = true ∧ p.length ≤ 12 := by
  unfold goodS at h
  rw [Bool.and_eq_true, decide_eq_true_eq] at h
  exact h
theorem form_cons (s : List UInt8) (p : List (List UInt8)) : formS (s :: p) = 47 :: (encS s ++ formS p) := by simp [formS]
/-- P9.3: a path written is read as the path. -/
theorem parse_text {p : List (List UInt8)} (h : goodS p = true) : parseS (textS p) = (p, decide (p.length = 0), 0) := by
  obtain ⟨hs, hl⟩ := good_facts h
  cases p with
  | nil => decide
  | cons s p =>
    have ht : textS (s :: p) = 47 :: (encS s ++ formS p) := by unfold textS; rw [h, if_pos rfl, if_neg (by simp), form_cons]
    rw [ht, parse_slash (by rw [← form_cons]; exact plain_form _), pieces_form']
    have := go_segs (s :: p) hs [] [] false
    simp only [List.map_cons, List.append_nil, List.nil_append] at this
    rw [this, goS, if_neg (by omega)]
    simp
theorem text_len {p : List (List UInt8)} : (textS p).length ≤ 4000 := by
  unfold textS
  split
  · rename_i h
    obtain ⟨hs, hl⟩ := good_facts h
    split
    · simp
    · have key : ∀ q : List (List UInt8), q.all segS = true → (formS q).length ≤ 200 * q.length := by
        intro q
        induction q with
        | nil => simp [formS]
        | cons s q ih =>
          intro hq
          rw [List.all_cons, Bool.and_eq_true] at hq
          have := ih hq.2
          have h4 := (seg_facts hq.1).2.2.2.1
          have h5 := enc_len s
          rw [form_cons, List.length_cons, List.length_append, List.length_cons]; omega
      have := key p hs
      omega
  · simp
/-- what is read is a path. -/
theorem say_seg {p s : List UInt8} {ok : Bool} (h : sayS p = (s, ok)) (h0 : ok = true) (h1 : ¬ 64 < s.length) (h2 : s ≠ [46, 46]) (h3 : ¬ (s = [] ∨ s = [46])) : segS s = true := by
  subst h0
  unfold sayS at h
  split at h
  · injection h with a b; cases b
  · injection h with a b
    subst a
    unfold segS
    rw [b, Bool.and_true, decide_eq_true_eq]
    exact ⟨fun e => h3 (.inl e), fun e => h3 (.inr e), h2, by omega⟩
theorem go_good : ∀ (ps path : List (List UInt8)) (d : Bool), path.all segS = true → (goS ps path d).1.all segS = true ∧ (goS ps path d).1.length ≤ 12 ∧ ((goS ps path d).2.2 ≠ 0 → goS ps path d = ([], false, (goS ps path d).2.2))
  | [], path, d, h => by
    rw [goS]
    split
    · simp
    · exact ⟨h, by simp only; omega, fun h => absurd rfl h⟩
  | p :: ps, path, d, h => by
    rw [goS]
    split
    · simp
    · rename_i hok
      split
      · simp
      · rename_i h64
        split
        · split
          · simp
          · refine go_good ps path.dropLast true ?_
            rw [List.all_eq_true] at h ⊢
            exact fun x hx => h x ((List.dropLast_sublist path).subset hx)
        · rename_i hdd
          split
          · exact go_good ps path true h
          · rename_i hz
            refine go_good ps _ false ?_
            rw [List.all_append, h, List.all_cons, say_seg (p := p) (s := (sayS p).1) (ok := (sayS p).2) rfl (by simpa using hok) h64 hdd hz]
            rfl
theorem parse_good (t : List UInt8) : goodS (parseS t).1 = true ∧ ((parseS t).2.2 ≠ 0 → (parseS t).1 = []) := by
  have hb : goodS ([] : List (List UInt8)) = true := by decide
  unfold parseS
  split
  · exact ⟨hb, fun _ => rfl⟩
  · split
    · obtain ⟨h1, h2, h3⟩ := go_good (piecesS (List.drop 1 _)) [] false rfl
      refine ⟨?_, fun h => by rw [h3 h]⟩
      unfold goodS; rw [h1, decide_eq_true h2]; rfl
    · exact ⟨hb, fun _ => rfl⟩

/-! P9.1: nobody climbs out of the root -/
theorem go_dd (ps path : List (List UInt8)) (d : Bool) (p : List UInt8) (hp : sayS p = ([46, 46], true)) : goS (p :: ps) path d = if path = [] then ([], false, 20) else goS ps path.dropLast true := by
  rw [goS, hp, if_neg (by simp), if_neg (by simp), if_pos rfl]
theorem go_dot (ps path : List (List UInt8)) (d : Bool) : goS ([46] :: ps) path d = goS ps path true := by
  rw [goS, show sayS [46] = ([46], true) from by decide, if_neg (by decide), if_neg (by decide), if_neg (by decide), if_pos (.inr rfl)]
/-- what is added and taken away again adds nothing. -/
theorem dots_back {p : List (List UInt8)} {x : List UInt8} (hp : p.all segS = true) (hl : p.length ≤ 12) (hx : segS x = true) :
    parseS (formS p ++ (formS [x] ++ [47, 46, 46, 47, 46, 47, 47])) = (p, true, 0) := by
  have hf : formS p ++ (formS [x] ++ [47, 46, 46, 47, 46, 47, 47]) = formS (p ++ [x]) ++ [47, 46, 46, 47, 46, 47, 47] := by simp [formS]
  rw [hf]
  have hall : (p ++ [x]).all segS = true := by rw [List.all_append, hp, List.all_cons, hx]; rfl
  have hpl : plainS (formS (p ++ [x]) ++ [47, 46, 46, 47, 46, 47, 47]) = true := by rw [plain_app, plain_form]; decide
  cases hq : p ++ [x] with
  | nil => simp at hq
  | cons s q =>
    rw [hq] at hall hpl
    rw [form_cons, List.cons_append, List.append_assoc] at *
    rw [parse_slash hpl]
    have e : encS s ++ (formS q ++ [47, 46, 46, 47, 46, 47, 47]) = encS s ++ (formS q ++ 47 :: [46, 46, 47, 46, 47, 47]) := rfl
    rw [e, pieces_form]
    have h := go_segs (s :: q) hall (piecesS [46, 46, 47, 46, 47, 47]) [] false
    simp only [List.map_cons, List.cons_append, List.nil_append] at h
    rw [h, ← hq, show piecesS [46, 46, 47, 46, 47, 47] = [[46, 46], [46], [], []] from by decide]
    rw [go_dd _ _ _ _ (by decide), if_neg (by simp), go_dot, go_empty, go_empty, List.dropLast_concat, goS, if_neg (by omega)]
/-- so many steps up, and one more. -/
def ups : Nat → List UInt8
  | 0 => []
  | n + 1 => [47, 37, 50, 101, 46] ++ ups n
theorem ups_plain (n : Nat) : plainS (ups n) = true := by
  induction n with
  | zero => rfl
  | succ n ih => rw [ups, plain_app, ih]; decide
theorem ups_len (n : Nat) : (ups n).length = 5 * n := by
  induction n with
  | zero => rfl
  | succ n ih => rw [ups, List.length_append, ih]; simp; omega
theorem ups_snoc (n : Nat) : ups n ++ [47, 37, 50, 101, 46] = ups (n + 1) := by
  induction n with
  | zero => rfl
  | succ n ih => rw [ups, List.append_assoc, ih]; rfl
theorem pieces_ups (n : Nat) (s : List UInt8) (h : ∀ x ∈ s, x ≠ 47) : piecesS (s ++ ups n) = s :: List.replicate n [37, 50, 101, 46] := by
  induction n generalizing s with
  | zero => rw [ups, List.append_nil]; exact pieces_one s h
  | succ n ih =>
    rw [ups]
    have e : s ++ ([47, 37, 50, 101, 46] ++ ups n) = s ++ 47 :: ([37, 50, 101, 46] ++ ups n) := rfl
    rw [e, pieces_app _ _ h, ih _ (by decide)]
    rfl
theorem go_ups : ∀ (n : Nat) (path : List (List UInt8)) (d : Bool), path.length < n → goS (List.replicate n [37, 50, 101, 46]) path d = ([], false, 20)
  | 0, path, d, h => by omega
  | n + 1, path, d, h => by
    rw [List.replicate_succ, go_dd _ _ _ _ (by decide)]
    by_cases hp : path = []
    · rw [if_pos hp]
    · rw [if_neg hp]
      exact go_ups n path.dropLast true (by rw [List.length_dropLast]; have := List.length_pos_iff.2 hp; omega)
theorem ups_out {p : List (List UInt8)} (hp : p.all segS = true) : parseS (formS p ++ ups (p.length + 1)) = ([], false, 20) := by
  have hpl : plainS (formS p ++ ups (p.length + 1)) = true := by rw [plain_app, plain_form, ups_plain]; rfl
  cases p with
  | nil => decide
  | cons s q =>
    rw [form_cons, List.cons_append, List.append_assoc] at *
    rw [parse_slash hpl]
    generalize hn : (s :: q).length = n
    have e : piecesS (encS s ++ (formS q ++ ups (n + 1))) = encS s :: (q.map encS ++ List.replicate (n + 1) [37, 50, 101, 46]) := by
      rw [show formS q ++ ups (n + 1) = formS q ++ 47 :: ([37, 50, 101, 46] ++ ups n) from rfl, pieces_form, pieces_ups _ _ (by decide)]
      rfl
    rw [e]
    have h := go_segs (s :: q) hp (List.replicate (n + 1) [37, 50, 101, 46]) [] false
    simp only [List.map_cons, List.cons_append, List.nil_append] at h
    rw [h, go_ups _ _ _ (by omega)]

/-! any text, each of its bytes written as % and two digits -/
def pctS (h : Nat → UInt8) (s : List UInt8) : List UInt8 := s.flatMap fun c => [37, h (c.toNat / 16), h (c.toNat % 16)]
theorem pct_cons (h : Nat → UInt8) (c : UInt8) (s : List UInt8) : pctS h (c :: s) = 37 :: h (c.toNat / 16) :: h (c.toNat % 16) :: pctS h s := by simp [pctS]
theorem pct_dec {h : Nat → UInt8} (H : Digs h) (s : List UInt8) : decS (pctS h s) = some s := by
  induction s with
  | nil => rfl
  | cons c s ih => rw [pct_cons, dec_pct H, ih]; rfl
theorem pct_seen {h : Nat → UInt8} (H : Digs h) (s : List UInt8) : plainS (pctS h s) = true ∧ ∀ x ∈ pctS h s, x ≠ 47 := by
  induction s with
  | nil => exact ⟨rfl, by simp [pctS]⟩
  | cons c s ih =>
    have hc := c.toNat_lt
    have h1 := H (c.toNat / 16) (by omega)
    have h2 := H (c.toNat % 16) (by omega)
    rw [pct_cons, plainS_cons, plainS_cons, plainS_cons, h1.2.1, h2.2.1, ih.1]
    refine ⟨by decide, fun x hx => ?_⟩
    simp at hx
    rcases hx with rfl | rfl | rfl | hx
    · decide
    · exact h1.2.2
    · exact h2.2.2
    · exact ih.2 x hx
theorem pct_len (h : Nat → UInt8) (s : List UInt8) : (pctS h s).length = 3 * s.length := by
  induction s with
  | nil => rfl
  | cons c s ih => rw [pct_cons]; simp only [List.length_cons, ih]; omega
theorem pct_parse {h : Nat → UInt8} (H : Digs h) (s : List UInt8) : parseS (47 :: pctS h s) = goS [pctS h s] [] false := by
  rw [parse_slash (by rw [plainS_cons, (pct_seen H s).1]; rfl), pieces_one _ (pct_seen H s).2]
theorem pct_say {h : Nat → UInt8} (H : Digs h) (s : List UInt8) : sayS (pctS h s) = (s, goodBytes s) := by unfold sayS; rw [pct_dec H]
theorem pct_seg {h : Nat → UInt8} (H : Digs h) {s : List UInt8} (hs : segS s = true) : parseS (47 :: pctS h s) = ([s], false, 0) := by
  obtain ⟨h1, h2, h3, h4, h5⟩ := seg_facts hs
  rw [pct_parse H, goS, pct_say H, h5, if_neg (by simp), if_neg (by simp only; omega), if_neg h3, if_neg (by rintro (e | e); exact h1 e; exact h2 e), goS]
  simp
theorem pct_dot {h : Nat → UInt8} (H : Digs h) {s : List UInt8} (hs : s = [] ∨ s = [46]) : parseS (47 :: pctS h s) = ([], true, 0) := by
  have hg : goodBytes s = true := by rcases hs with rfl | rfl <;> decide
  have h3 : s ≠ [46, 46] := by rcases hs with rfl | rfl <;> decide
  have h4 : ¬ 64 < s.length := by rcases hs with rfl | rfl <;> decide
  rw [pct_parse H, goS, pct_say H, hg, if_neg (by simp), if_neg h4, if_neg h3, if_pos hs, goS]
  simp
theorem pct_bad {h : Nat → UInt8} (H : Digs h) {s : List UInt8} (hs : segS s = false) (hz : ¬ (s = [] ∨ s = [46])) :
    (parseS (47 :: pctS h s)).1 = [] ∧ (parseS (47 :: pctS h s)).2.1 = false ∧ ((parseS (47 :: pctS h s)).2.2 = 20 ∨ (parseS (47 :: pctS h s)).2.2 = 5 ∧ 64 < s.length) := by
  rw [pct_parse H, goS, pct_say H]
  simp only
  cases hg : goodBytes s with
  | false => rw [if_pos rfl]; exact ⟨rfl, rfl, .inl rfl⟩
  | true =>
    rw [if_neg (by simp)]
    by_cases h64 : s.length > 64
    · rw [if_pos h64]; exact ⟨rfl, rfl, .inr ⟨rfl, h64⟩⟩
    · rw [if_neg h64]
      by_cases hdd : s = [46, 46]
      · rw [if_pos hdd]; exact ⟨rfl, rfl, .inl rfl⟩
      · exfalso
        have : segS s = true := by
          unfold segS
          rw [hg, Bool.and_true, decide_eq_true_eq]
          exact ⟨fun e => hz (.inl e), fun e => hz (.inr e), hdd, by omega⟩
        rw [this] at hs; cases hs
end Go.Proofs.YthfdhanhkanhhaaDoor

/-
  Plain laws of layer 16: which tokens are submitted; how much a header that is read may say. No condition.
-/
import Derived.Test.YthfdhanhkanhhaaDoorCondSpec
namespace Go.Proofs.YthfdhanhkanhhaaDoor

theorem find_mem (fs : List FactT) (p : List (List UInt8)) : findS fs p ∈ fs ∨ findS fs p = noFact := by
  induction fs with
  | nil => exact .inr rfl
  | cons f r ih =>
    unfold findS
    split
    · exact .inl (by simp)
    · rcases ih with h | h
      · exact .inl (by simp [h])
      · exact .inr h
theorem facts_mem (tagged : Bool) (tag : List UInt8) (self : List (List UInt8)) (fs : List FactT) : factsS tagged tag self fs ∈ fs ∨ factsS tagged tag self fs = noFact := by
  unfold factsS
  split
  · split
    · exact find_mem _ _
    · exact .inr rfl
  · exact find_mem _ _
/-- of whom it is told that a token is submitted. -/
def AskedT (gs : List GroupT) (t : List UInt8) : Prop := ∃ g ∈ gs, ∃ c ∈ g.conds, c.tok = t ∧ c.neg = false
def KnownT (fs : List FactT) (t : List UInt8) : Prop := ∃ f ∈ fs, t ∈ f.toks
theorem add_mem (cs : List CondT) : ∀ (out : List (List UInt8)) (t : List UInt8), t ∈ addS out cs → t ∈ out ∨ ∃ c ∈ cs, c.tok = t ∧ c.neg = false ∧ t ≠ [] := by
  induction cs with
  | nil => intro out t h; exact .inl h
  | cons c r ih =>
    intro out t h
    rcases ih _ t h with h | ⟨c', hc', h1, h2, h3⟩
    · split at h
      · rename_i hcond
        simp at hcond
        rcases List.mem_append.1 h with h | h
        · exact .inl h
        · have : t = c.tok := by simpa using h
          exact .inr ⟨c, by simp, this.symm, hcond.1.2, by rw [this]; exact hcond.1.1⟩
      · exact .inl h
    · exact .inr ⟨c', by simp [hc'], h1, h2, h3⟩
theorem add_nodup (cs : List CondT) : ∀ (out : List (List UInt8)), out.Nodup → (addS out cs).Nodup := by
  induction cs with
  | nil => intro out h; exact h
  | cons c r ih =>
    intro out h
    refine ih _ ?_
    split
    · rename_i hcond
      simp at hcond
      rw [List.nodup_append]
      refine ⟨h, by simp, fun a ha b hb => ?_⟩
      have : b = c.tok := by simpa using hb
      subst this
      intro hab
      subst hab
      exact hcond.2 ha
    · exact h
theorem submit_mem (self : List (List UInt8)) (fs : List FactT) : ∀ (gs : List GroupT) (out : List (List UInt8)) (t : List UInt8), t ∈ submitS out gs self fs → t ∈ out ∨ (AskedT gs t ∧ KnownT fs t ∧ holdsS gs self fs = true)
  | [], out, t, h => .inl h
  | g :: r, out, t, h => by
    unfold submitS at h
    have up : AskedT r t ∧ KnownT fs t ∧ holdsS r self fs = true → AskedT (g :: r) t ∧ KnownT fs t ∧ holdsS (g :: r) self fs = true := by
      rintro ⟨⟨g', hg', c, hc⟩, hk, hh⟩
      refine ⟨⟨g', by simp [hg'], c, hc⟩, hk, ?_⟩
      unfold holdsS
      rw [hh, Bool.or_true]
    rcases submit_mem self fs r _ t h with h | h
    · split at h
      · rename_i hg
        rcases add_mem _ _ _ h with h | ⟨c, hc, h1, h2, h3⟩
        · exact .inl h
        · refine .inr ⟨⟨g, by simp, c, hc, h1, h2⟩, ?_, ?_⟩
          · have hok : okC (factsS g.tagged g.tag self fs) c = true := List.all_eq_true.1 hg c hc
            unfold okC isC at hok
            rw [if_neg (by rw [h1]; exact h3), h2, h1] at hok
            have hm : t ∈ (factsS g.tagged g.tag self fs).toks := by simpa using hok
            rcases facts_mem g.tagged g.tag self fs with hf | hf
            · exact ⟨_, hf, hm⟩
            · rw [hf] at hm
              cases hm
          · unfold holdsS
            rw [hg, Bool.true_or]
      · exact .inl h
    · exact .inr (up h)
theorem submit_nodup (self : List (List UInt8)) (fs : List FactT) : ∀ (gs : List GroupT) (out : List (List UInt8)), out.Nodup → (submitS out gs self fs).Nodup
  | [], out, h => h
  | g :: r, out, h => by
    unfold submitS
    refine submit_nodup self fs r _ ?_
    split
    · exact add_nodup _ _ h
    · exact h
theorem list_size : ∀ (n : Nat) (s : List UInt8) (out l : List CondT) (r : List UInt8), listF n s out = some (l, r) → l.length + r.length ≤ out.length + s.length
  | 0, _, _, _, _, h => by cases h
  | n + 1, s, out, l, r, h => by
    unfold listF at h
    split at h
    · rename_i he
      split at h
      · cases h
      · injection h with h
        injection h with h1 h2
        subst h1 h2
        have := eatR_len [41] s
        omega
    · split at h
      · rename_i hc
        have h3 := cond_len hc
        have h4 := eatR_len [41] s
        have := list_size n _ _ _ _ h
        simp at this
        omega
      · cases h
theorem head_size (N : Nat) : ∀ (n : Nat) (s : List UInt8) (out : List GroupT) (tag : List UInt8) (tagged fresh : Bool) (gs : List GroupT), headF n s out tag tagged fresh = some gs →
    s.length ≤ N → tag.length ≤ N → (∀ g ∈ out, g.tag.length ≤ N) → (∀ g ∈ gs, g.tag.length ≤ N) ∧ condsN gs ≤ condsN out + s.length
  | 0, _, _, _, _, _, _, h, _, _, _ => by cases h
  | n + 1, s, out, tag, tagged, fresh, gs, h, h1, h2, h3 => by
    unfold headF at h
    split at h
    · split at h
      · cases h
      · injection h with h
        subst h
        exact ⟨h3, by omega⟩
    · split at h
      · have h4 := eatR_len [40] s
        split at h
        · cases h
        · rename_i l r hl
          have h5 := list_size _ _ _ _ _ hl
          have h6 := white_len r
          simp at h5
          obtain ⟨a, b⟩ := head_size N n _ _ _ _ _ _ h (by omega) h2 (fun g hg => by
            rcases List.mem_append.1 hg with hg | hg
            · exact h3 g hg
            · have : g = ⟨tagged, tag, l⟩ := by simpa using hg
              rw [this]; exact h2)
          refine ⟨a, Nat.le_trans b ?_⟩
          simp [condsN]
          omega
      · split at h
        · have h4 := eatR_len [40] s
          have h5 := eatR_len [60] (eatR [40] s)
          split at h
          · cases h
          · rename_i t r hb
            have h6 := betw_len hb
            have h7 := white_len r
            obtain ⟨a, b⟩ := head_size N n _ _ _ _ _ _ h (by omega) (by omega) h3
            exact ⟨a, by omega⟩
        · cases h
theorem headS_size {s : List UInt8} {gs : List GroupT} (h : headS s = some gs) : (∀ g ∈ gs, g.tag.length ≤ s.length) ∧ condsN gs ≤ s.length := by
  have hw := white_len s
  have := head_size s.length _ _ _ _ _ _ _ h hw (Nat.zero_le _) (fun g hg => by cases hg)
  refine ⟨this.1, Nat.le_trans this.2 ?_⟩
  simp [condsN]
  exact hw
end Go.Proofs.YthfdhanhkanhhaaDoor

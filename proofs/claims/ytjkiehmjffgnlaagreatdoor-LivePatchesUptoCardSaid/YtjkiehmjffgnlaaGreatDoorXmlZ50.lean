import Derived.Test.YtjkiehmjffgnlaaGreatDoorXmlZ49
namespace Go.Proofs.YtjkiehmjffgnlaaGreatDoor
set_option linter.unusedVariables false
set_option linter.unusedSimpArgs false
open Go.RowKit

theorem sym_mono {P A Y R : List NodeD} {a m b : Nat} (ha : P.length = a) (hA : A.length = m - a) (hY : Y.length = b - m) (ham : a < m) (hmb : m < b) (sA : Srt leD A) (sY : Srt leD Y) {c c' q q' : Nat} (h1 : a ≤ c') (h2 : c' ≤ c) (h3 : c < m) (h4 : m ≤ q) (h5 : q ≤ q') (h6 : q' < b)
    (h : leD (P ++ (A ++ (Y ++ R)))[c]! (P ++ (A ++ (Y ++ R)))[q]! = true) : leD (P ++ (A ++ (Y ++ R)))[c']! (P ++ (A ++ (Y ++ R)))[q']! = true := by
  have gA : ∀ c, a ≤ c → c < m → (P ++ (A ++ (Y ++ R)))[c]! = A[c - a]! := fun c h1 h2 => by rw [at_A _ _ _ _ (by omega) (by omega), ha]
  have gB : ∀ c, m ≤ c → c < b → (P ++ (A ++ (Y ++ R)))[c]! = Y[c - m]! := fun c h1 h2 => by
    rw [at_R _ _ _ _ (by omega), List.getElem!_eq_getElem?_getD, List.getElem?_append_left (by omega), List.getElem!_eq_getElem?_getD]
    congr 2
    omega
  rw [gA c (by omega) h3, gB q h4 (by omega)] at h
  rw [gA c' h1 (by omega), gB q' (by omega) h6]
  exact leD_ok.trans _ _ _ (leD_ok.trans _ _ _ (sA.le_at leD_ok (i := c' - a) (j := c - a) (by omega) (by omega)) h) (sY.le_at leD_ok (i := q - m) (j := q' - m) (by omega) (by omega))
theorem bang_at {D : List NodeD} {i : Nat} (h : i < D.length) : D[i]? = some D[i]! := by rw [bang D i h, List.getElem?_eq_getElem h]
def SymIH (B g cap L N : Nat) : Prop := ∀ (P A Y R : List NodeD) (w : World) (a m b : Nat), A.length + Y.length ≤ N → a = P.length → m = P.length + A.length → b = P.length + A.length + Y.length → 0 < A.length → 0 < Y.length → L = (P ++ (A ++ (Y ++ R))).length → Srt leD A → Srt leD Y → NRow NodeD.cells B g cap (P ++ (A ++ (Y ++ R))) w →
    Calls Tryz.prog 54 #[.slice (some ⟨g, 0, none⟩) L cap, .int .i64 a, .int .i64 m, .int .i64 b, .func (.func 23) #[] #[]] w (MergeP B g cap P A Y R w)
set_option maxHeartbeats 128000000 in
set_option maxRecDepth 100000 in
set_option linter.unusedSimpArgs false in
theorem sym_both (B g cap L : Nat) (hs : L ≤ 1000000000000) (N : Nat) (IH : SymIH B g cap L N) (P A Y R : List NodeD) (w : World) (a m b mid s0 r0 : Nat) (hN : A.length + Y.length ≤ N + 1) (ha : a = P.length) (hm : m = P.length + A.length) (hb : b = P.length + A.length + Y.length) (hA1 : 1 < A.length) (hY1 : 1 < Y.length) (hL : L = (P ++ (A ++ (Y ++ R))).length) (hA : Srt leD A) (hY : Srt leD Y) (h : NRow NodeD.cells B g cap (P ++ (A ++ (Y ++ R))) w) (hmid : mid = (a + b) / 2) (hmm : (mid < m ∧ s0 = mid + m - b ∧ r0 = mid) ∨ (¬ mid < m ∧ s0 = a ∧ r0 = m)) :
    Calls Tryz.prog 54 #[.slice (some ⟨g, 0, none⟩) L cap, .int .i64 a, .int .i64 m, .int .i64 b, .func (.func 23) #[] #[]] w (MergeP B g cap P A Y R w) := by
  have HIH := Lib.hid IH
  obtain ⟨E, hEE⟩ : ∃ E, E = MergeP B g cap P A Y R w := ⟨_, rfl⟩
  rw [← hEE]
  have HEE := Lib.hid hEE
  have HO0 := Lib.hid h
  have hLl : L = P.length + (A.length + (Y.length + R.length)) := by rw [hL]; simp only [List.length_append]
  obtain ⟨nn, hnn⟩ : ∃ nn, nn = mid + m := ⟨_, rfl⟩
  obtain ⟨pp, hpp⟩ : ∃ pp, pp = nn - 1 := ⟨_, rfl⟩
  have HAll := Lib.hid (⟨ha, by omega, by omega, by omega, hmid, hnn, hpp, hA1, hY1, hN, by omega⟩ : a = P.length ∧ m = a + A.length ∧ b = m + Y.length ∧ L = b + R.length ∧ mid = (a + b) / 2 ∧ nn = mid + m ∧ pp = nn - 1 ∧ 1 < A.length ∧ 1 < Y.length ∧ A.length + Y.length ≤ N + 1 ∧ ((mid < m ∧ s0 = mid + m - b ∧ r0 = mid) ∨ (¬ mid < m ∧ s0 = a ∧ r0 = m)))
  have HS0 := Lib.hid (show (if m > (a + b) / 2 then (a + b) / 2 + m - b else a) = s0 by rw [← hmid]; rcases hmm with ⟨h1, h2, -⟩ | ⟨h1, h2, -⟩ <;> first | exact (if_pos h1).trans h2.symm | exact (if_neg h1).trans h2.symm)
  have HR0 := Lib.hid (show (if m > (a + b) / 2 then (a + b) / 2 else m) = r0 by rw [← hmid]; rcases hmm with ⟨h1, -, h2⟩ | ⟨h1, -, h2⟩ <;> first | exact (if_pos h1).trans h2.symm | exact (if_neg h1).trans h2.symm)
  have HB := Lib.hid (show a ≤ s0 ∧ s0 ≤ r0 ∧ r0 ≤ mid ∧ r0 ≤ m ∧ nn ≤ b + s0 from by omega)
  have HSA := Lib.hid hA
  have HSY := Lib.hid hY
  obtain ⟨da, hda⟩ : ∃ d, d = m - a := ⟨_, rfl⟩
  obtain ⟨db, hdb⟩ : ∃ d, d = b - m := ⟨_, rfl⟩
  have e1 : IntKind.i64.wrap ((m : Int) - a) = (da : Int) := by rw [IntWalk.i64_in _ (by omega)]; omega
  have e2 : IntKind.i64.wrap ((b : Int) - m) = (db : Int) := by rw [IntWalk.i64_in _ (by omega)]; omega
  have e3 : ((da : Int) == 1) = false := by rw [beq_eq_false_iff_ne]; omega
  have e3' : ¬ (da : Int) = 1 := by omega
  have e4 : ((db : Int) == 1) = false := by rw [beq_eq_false_iff_ne]; omega
  have e4' : ¬ (db : Int) = 1 := by omega
  have e5 : ((a : Int) + b) / 2 = (mid : Int) := by omega
  have e6 : IntKind.i64.wrap ((mid : Int) + m) = (nn : Int) := by rw [IntWalk.i64_in _ (by omega)]; omega
  have e7 : IntKind.i64.wrap ((nn : Int) - 1) = (pp : Int) := by rw [IntWalk.i64_in _ (by omega)]; omega
  have hcase : ((mid : Int) < m ∧ IntKind.i64.wrap ((nn : Int) - b) = (s0 : Int) ∧ s0 = s0 ∧ r0 = mid) ∨ (¬ (mid : Int) < m ∧ True ∧ s0 = a ∧ r0 = m) := by
    rcases hmm with ⟨h1, h2, h3⟩ | ⟨h1, h2, h3⟩
    · exact .inl ⟨by omega, by rw [IntWalk.i64_in _ (by omega)]; omega, rfl, h3⟩
    · exact .inr ⟨by omega, trivial, h2, h3⟩
  have hbL : b ≤ L := by omega
  have haL : a ≤ L := by omega
  have hmL : m ≤ L := by omega
  obtain ⟨fu, hfu⟩ : ∃ fu, fu = r0 - s0 := ⟨_, rfl⟩
  have HFu := Lib.hid hfu
  obtain ⟨D, hD⟩ : ∃ D, D = P ++ (A ++ (Y ++ R)) := ⟨_, rfl⟩
  rw [← hD] at HO0
  have HD := Lib.hid hD
  have HDl := Lib.hid (show D.length = L by rw [hD, hL])
  clear h hEE hL ha hm hb hLl hA hY hmid hnn hpp hA1 hY1 hda hdb hD hN hmm hfu IH
  have mixed : Tryz.prog.follows .mixedOrders = true := by kernel_rfl
  go_enter Tryz.func54, Tryz.ntmps54
  rcases hcase with ⟨e8, e9, hE0, hE1⟩ | ⟨e8, e9, hE0, hE1⟩
  all_goals
    have HE0 := Lib.hid hE0
    have HE1 := Lib.hid hE1
    clear hE0 hE1
    go_wp2_with fail
    go_loopg [20, 21] fu (fun gk v20 v21 wr => ∃ s r : Nat, s0 ≤ s ∧ s ≤ r ∧ r ≤ r0 ∧ r - s ≤ gk ∧ v20 = .int .i64 s ∧ v21 = .int .i64 r ∧ Hid (∀ c, s0 ≤ c → c < s → leD D[c]! D[pp - c]! = true) ∧ Hid (∀ c, r ≤ c → c < r0 → leD D[c]! D[pp - c]! = false) ∧ Hid (NRow NodeD.cells B g cap D wr) ∧ Hid (RGr (some g) (some g) w wr))
    case atStart => exact ⟨s0, r0, Nat.le_refl _, HB.out.2.1, Nat.le_refl _, by rw [HFu.out]; exact Nat.le_refl _, by first | rfl | rw [HE0.out], by rw [HE1.out], Lib.hid (fun c h1 h2 => by omega), Lib.hid (fun c h1 h2 => by omega), HO0, Lib.hid (RGr.refl _ _)⟩
    case round =>
      obtain ⟨s, r, hss, hsr, hrr, hgk, rfl, rfl, HLo, HHi, HO, HR⟩ := hrel
      clear HO0
      rcases Nat.lt_or_ge s r with hlt | hge
      · obtain ⟨k, hk⟩ : ∃ k, k = (s + r) / 2 := ⟨_, rfl⟩
        have hk1 : s ≤ k := by omega
        have hk2 : k < r := by omega
        obtain ⟨q, hq⟩ : ∃ q, q = pp - k := ⟨_, rfl⟩
        have e10 : ((s : Int) + r) / 2 = (k : Int) := by omega
        have hal := HAll.out
        have hbb := HB.out
        have e11 : IntKind.i64.wrap ((pp : Int) - k) = (q : Int) := by rw [IntWalk.i64_in _ (by omega)]; omega
        have hkq : k < m ∧ m ≤ q ∧ q < b ∧ a ≤ k := by omega
        have gk' : D[k]? = some D[k]! := bang_at (by rw [HDl.out]; omega)
        have gq : D[q]? = some D[q]! := bang_at (by rw [HDl.out]; omega)
        obtain ⟨x, hx⟩ : ∃ x, x = D[k]! := ⟨_, rfl⟩
        obtain ⟨y, hy⟩ : ∃ y, y = D[q]! := ⟨_, rfl⟩
        rw [← hx] at gk'
        rw [← hy] at gq
        have HX := Lib.hid hx
        have HY := Lib.hid hy
        have HQ := Lib.hid hq
        obtain ⟨c0, c1, c2, c3, c4, f0, f1, f2, f3, f4, p0, p1, p2, p3, p4, q0, q1, q2, q3, q4, HCm⟩ := probe_ready HO.out gq gk'
        have k1 : (s : Int) < r := by omega
        have k2 : (k : Int) < L := by omega
        have k3 : (q : Int) < L := by omega
        have HK := Lib.hid (show s ≤ k ∧ k < r ∧ k < m ∧ m ≤ q ∧ q < b ∧ a ≤ k from ⟨hk1, hk2, hkq⟩)
        have HMo := Lib.hid (fun (c c' : Nat) (h1 : s0 ≤ c') (h2 : c' ≤ c) (h3 : c < r0) (h : leD D[c]! D[pp - c]! = true) => (by
          rw [HD.out] at h ⊢
          exact sym_mono (P := P) (A := A) (Y := Y) (R := R) (a := a) (m := m) (b := b) hal.1.symm (by omega) (by omega) (by omega) (by omega) HSA.out HSY.out (by omega) h2 (by omega) (show m ≤ pp - c by omega) (by omega) (by omega) h : leD D[c']! D[pp - c']! = true))
        clear hk hk1 hk2 hal hbb hkq gk' gq hx hy hq
        by_cases hcn : cmpD y x < 0
        · have HLe := Lib.hid (cmpD_neg.1 hcn)
          have HHi2 := Lib.hid (show ∀ c, k ≤ c → c < r0 → leD D[c]! D[pp - c]! = false from fun c h1 h2 => by
            cases h9 : leD D[c]! D[pp - c]! with
            | false => rfl
            | true =>
              have := HMo.out c k (by have := HK.out; omega) h1 h2 h9
              rw [← HQ.out, ← HX.out, ← HY.out, HLe.out] at this
              cases this)
          go_upto_region 35 with (fail)
          go_quiet_grown (first | (go_at_call 23; refine Calls.grown_of (HCm.out _)))
          have HBc := Lib.hid (below_grown wr nq osq)
          clear p0 p1 p2 p3 p4 q0 q1 q2 q3 q4 HCm
          generalize Sort.grow (wr.drewN nq) osq = wc at *
          have HO2 := Lib.hid (HO.out.under HBc.out)
          have HR2 := Lib.hid (HR.out.trans (RGr.under HBc.out))
          clear HO HR HBc HHi HMo
          go_wp2
          go_roundg (gk - 1)
          case measure => have := HK.out; omega
          case rel => exact ⟨s, k, hss, by have := HK.out; omega, by have := HK.out; omega, by have := HK.out; omega, rfl, rfl, HLo, HHi2, HO2, HR2⟩
        · have HLe := Lib.hid (show leD D[k]! D[pp - k]! = true by
            have h0 : ¬ leD x y = false := fun h => hcn (cmpD_neg.2 h)
            rw [← HQ.out, ← HX.out, ← HY.out]
            simpa using h0)
          have HLo2 := Lib.hid (show ∀ c, s0 ≤ c → c < k + 1 → leD D[c]! D[pp - c]! = true from fun c h1 h2 => HMo.out k c h1 (by omega) (by have := HK.out; omega) HLe.out)
          go_upto_region 35 with (fail)
          go_quiet_grown (first | (go_at_call 23; refine Calls.grown_of (HCm.out _)))
          have HBc := Lib.hid (below_grown wr nq osq)
          clear p0 p1 p2 p3 p4 q0 q1 q2 q3 q4 HCm
          generalize Sort.grow (wr.drewN nq) osq = wc at *
          have HO2 := Lib.hid (HO.out.under HBc.out)
          have HR2 := Lib.hid (HR.out.trans (RGr.under HBc.out))
          clear HO HR HBc HLo HMo
          go_wp2
          go_roundg (gk - 1)
          case measure => have := HK.out; omega
          case rel => exact ⟨k + 1, r, by have := HK.out; omega, by have := HK.out; omega, hrr, by have := HK.out; omega, by go_num, rfl, HLo2, HHi, HO2, HR2⟩
      · obtain rfl : s = r := by omega
        have hal := HAll.out
        have hbb := HB.out
        obtain ⟨A1, X, Y1, B2, hA, hY, l1, l2, l3, l4, z1, z2, z3, z4, z5, hXY, hAB⟩ := sym_parts leD_ok (P := P) (A := A) (B := Y) (R := R) (a := a) (m := m) (b := b) (start := s) hal.1.symm (by omega) (by omega) (by omega) (by omega) HSA.out HSY.out (by rw [HS0.out]; exact hss) (by rw [HR0.out]; exact hrr) (by
          rw [HS0.out]
          intro c h1 h2
          have := HLo.out c h1 h2
          rw [HD.out] at this
          rw [show (a + b) / 2 + m - 1 - c = pp - c by omega]
          exact this) (by
          rw [HR0.out]
          intro c h1 h2
          have := HHi.out c h1 h2
          rw [HD.out] at this
          rw [show (a + b) / 2 + m - 1 - c = pp - c by omega]
          exact this)
        subst hA hY
        obtain ⟨sA1, sX, -⟩ := HSA.out.parts
        obtain ⟨sY1, sB2, -⟩ := HSY.out.parts
        obtain ⟨en, hen⟩ : ∃ en, en = nn - s := ⟨_, rfl⟩
        have e10 : IntKind.i64.wrap ((nn : Int) - s) = (en : Int) := by rw [IntWalk.i64_in _ (by omega)]; omega
        have HRow := Lib.hid (show NRow NodeD.cells B g cap (P ++ (A1 ++ (X ++ (Y1 ++ (B2 ++ R))))) wr by have := HO.out; rw [HD.out] at this; simpa using this)
        have hlens : (A1 ++ X).length = A1.length + X.length ∧ (Y1 ++ B2).length = Y1.length + B2.length := ⟨List.length_append, List.length_append⟩
        have HL2 := Lib.hid (show L = P.length + (A1.length + (X.length + (Y1.length + (B2.length + R.length)))) ∧ a = P.length ∧ s = a + A1.length ∧ m = s + X.length ∧ mid = s + Y1.length ∧ en = mid + X.length ∧ b = en + B2.length ∧ A1.length + Y1.length ≤ N ∧ X.length + B2.length ≤ N ∧ 1 < A1.length + X.length ∧ 1 < Y1.length + B2.length by omega)
        have HM := Lib.hid (fun (M1 M2 : List NodeD) s1 t1 s2 t2 => merge_turn leD_ok (A1 := A1) (X := X) (Y := Y1) (B2 := B2) (M1 := M1) (M2 := M2) HSA.out HSY.out hXY hAB s1 t1 s2 t2)
        have HT1 := Lib.hid sA1
        have HT2 := Lib.hid sX
        have HT3 := Lib.hid sY1
        have HT4 := Lib.hid sB2
        have HRo := Lib.hid (fun (w : World) h1 h2 h3 h4 h5 h6 h7 => rotate_any encD B g cap (P ++ A1) X Y1 (B2 ++ R) (.func (.func 23) #[] #[]) w s m en L h1 h2 h3 h4 h5 h6 h7 hs)
        have k1 : ¬ (s : Int) < s := by omega
        clear HLo HHi HO HSA HSY hal hbb hXY hAB l1 l2 l3 l4 z1 z2 z3 z4 z5 sA1 sX sY1 sB2 hen hlens HAll HB HS0 HR0 HFu
        clear HD HDl
        rcases Nat.eq_zero_or_pos A1.length with hea | hea <;> rcases Nat.eq_zero_or_pos X.length with hex | hex <;> rcases Nat.eq_zero_or_pos Y1.length with hey | hey <;> rcases Nat.eq_zero_or_pos B2.length with heb | heb
        · exfalso; have := HL2.out; omega
        · exfalso; have := HL2.out; omega
        · exfalso; have := HL2.out; omega
        · exfalso; have := HL2.out; omega
        · exfalso; have := HL2.out; omega
        · -- A1 0 X 1 Y1 0 B2 1
          obtain rfl := List.eq_nil_of_length_eq_zero hea
          obtain rfl := List.eq_nil_of_length_eq_zero hey
          have j1y : (s : Int) < m := by (have := HL2.out; try simp only [List.length_nil] at this); omega
          have j2n : ¬ (m : Int) < en := by (have := HL2.out; try simp only [List.length_nil] at this); omega
          have j3n : ¬ (a : Int) < s := by (have := HL2.out; try simp only [List.length_nil] at this); omega
          have j4n : ¬ (s : Int) < mid := by (have := HL2.out; try simp only [List.length_nil] at this); omega
          have j5y : (mid : Int) < en := by (have := HL2.out; try simp only [List.length_nil] at this); omega
          have j6y : (en : Int) < b := by (have := HL2.out; try simp only [List.length_nil] at this); omega
          have HRow5 := Lib.hid (show NRow NodeD.cells B g cap (P ++ (([] : List NodeD) ++ (([] : List NodeD) ++ (X ++ (B2 ++ R))))) wr by have := HRow.out; simpa using this)
          have HR5 := HR
          obtain ⟨M1, hM1⟩ : ∃ M1, M1 = ([] : List NodeD) ++ ([] : List NodeD) := ⟨_, rfl⟩
          have HRow6 := Lib.hid (show NRow NodeD.cells B g cap (P ++ (M1 ++ (X ++ (B2 ++ R)))) wr by rw [hM1]; have := HRow5.out; simpa using this)
          have HR6 := HR5
          have HM1 := Lib.hid (show Srt leD M1 ∧ Stab leD (([] : List NodeD) ++ ([] : List NodeD)) M1 from ⟨by rw [hM1]; first | (rw [List.nil_append]; exact HT3.out) | (rw [List.append_nil]; exact HT1.out), by rw [hM1]; exact Stab.refl _⟩)
          have hM1l : M1.length = ([] : List NodeD).length + ([] : List NodeD).length := by rw [hM1, List.length_append]
          clear hM1
          have HM1l := Lib.hid hM1l
          have hC := HIH.out (P ++ M1) X B2 R wr mid en b (by (have := HL2.out; try simp only [List.length_append, List.length_nil] at this ⊢) <;> omega) (by (have := HL2.out; try simp only [List.length_append, List.length_nil] at this ⊢) <;> omega) (by (have := HL2.out; try simp only [List.length_append, List.length_nil] at this ⊢) <;> omega) (by (have := HL2.out; try simp only [List.length_append, List.length_nil] at this ⊢) <;> omega) (by omega) (by omega) (by (have := HL2.out; try simp only [List.length_append, List.length_nil] at this ⊢) <;> omega) HT2.out HT4.out (by have := HRow6.out; simpa using this)
          have HC := Lib.hid hC
          clear hC hM1l
          go_wp2_with fail
          refine HC.out.mono ?_
          rintro e w7 ⟨rfl, d7, ⟨M2, rfl, sM2, tM2⟩, ho7, hr7⟩
          have HF := Lib.hid (show ∃ C, (P ++ M1) ++ (M2 ++ R) = P ++ (C ++ R) ∧ Srt leD C ∧ Stab leD ((([] : List NodeD) ++ X) ++ (([] : List NodeD) ++ B2)) C from ⟨M1 ++ M2, by simp, HM.out M1 M2 HM1.out.1 HM1.out.2 sM2 tM2⟩)
          have HRow7 := Lib.hid ho7
          have HR7 := Lib.hid (HR6.out.trans hr7)
          clear ho7 hr7 HC sM2 tM2
          clear HRow HRow5 HRow6 HR5 HR6 HM HM1 HIH HRo
          go_wp2
          try
            go_end0
            rw [HEE.out]
            exact ⟨rfl, _, HF.out, HRow7.out, HR7.out⟩
        · -- A1 0 X 1 Y1 1 B2 0
          obtain rfl := List.eq_nil_of_length_eq_zero hea
          obtain rfl := List.eq_nil_of_length_eq_zero heb
          have j1y : (s : Int) < m := by (have := HL2.out; try simp only [List.length_nil] at this); omega
          have j2y : (m : Int) < en := by (have := HL2.out; try simp only [List.length_nil] at this); omega
          have j3n : ¬ (a : Int) < s := by (have := HL2.out; try simp only [List.length_nil] at this); omega
          have j4y : (s : Int) < mid := by (have := HL2.out; try simp only [List.length_nil] at this); omega
          have j5y : (mid : Int) < en := by (have := HL2.out; try simp only [List.length_nil] at this); omega
          have j6n : ¬ (en : Int) < b := by (have := HL2.out; try simp only [List.length_nil] at this); omega
          have hC := HRo.out wr (by (have := HL2.out; try simp only [List.length_append, List.length_nil] at this ⊢) <;> omega) (by (have := HL2.out; try simp only [List.length_append, List.length_nil] at this ⊢) <;> omega) (by (have := HL2.out; try simp only [List.length_append, List.length_nil] at this ⊢) <;> omega) (by omega) (by omega) (by (have := HL2.out; try simp only [List.length_append, List.length_nil] at this ⊢) <;> omega) (by have := HRow.out; simpa using this)
          have HC := Lib.hid hC
          clear hC
          go_wp2_with fail
          refine HC.out.mono ?_
          rintro e w5 ⟨rfl, d5, rfl, ho5, hr5⟩
          have HRow5 := Lib.hid (show NRow NodeD.cells B g cap (P ++ (([] : List NodeD) ++ (Y1 ++ (X ++ (([] : List NodeD) ++ R))))) w5 by simpa using ho5)
          have HR5 := Lib.hid (HR.out.trans hr5)
          clear ho5 hr5 HC
          obtain ⟨M1, hM1⟩ : ∃ M1, M1 = ([] : List NodeD) ++ Y1 := ⟨_, rfl⟩
          have HRow6 := Lib.hid (show NRow NodeD.cells B g cap (P ++ (M1 ++ (X ++ (([] : List NodeD) ++ R)))) w5 by rw [hM1]; have := HRow5.out; simpa using this)
          have HR6 := HR5
          have HM1 := Lib.hid (show Srt leD M1 ∧ Stab leD (([] : List NodeD) ++ Y1) M1 from ⟨by rw [hM1]; first | (rw [List.nil_append]; exact HT3.out) | (rw [List.append_nil]; exact HT1.out), by rw [hM1]; exact Stab.refl _⟩)
          have hM1l : M1.length = ([] : List NodeD).length + Y1.length := by rw [hM1, List.length_append]
          clear hM1
          obtain ⟨M2, hM2⟩ : ∃ M2, M2 = X ++ ([] : List NodeD) := ⟨_, rfl⟩
          have HRow7 := Lib.hid (show NRow NodeD.cells B g cap ((P ++ M1) ++ (M2 ++ R)) w5 by rw [hM2]; have := HRow6.out; simpa using this)
          have HR7 := HR6
          have HF := Lib.hid (show ∃ C, (P ++ M1) ++ (M2 ++ R) = P ++ (C ++ R) ∧ Srt leD C ∧ Stab leD ((([] : List NodeD) ++ X) ++ (Y1 ++ ([] : List NodeD))) C from ⟨M1 ++ M2, by simp, HM.out M1 M2 HM1.out.1 HM1.out.2 (by rw [hM2]; first | (rw [List.nil_append]; exact HT4.out) | (rw [List.append_nil]; exact HT2.out)) (by rw [hM2]; exact Stab.refl _)⟩)
          clear hM2 hM1l
          clear HRow HRow5 HRow6 HR5 HR6 HM HM1 HIH HRo
          go_wp2
          try
            go_end0
            rw [HEE.out]
            exact ⟨rfl, _, HF.out, HRow7.out, HR7.out⟩
        · -- A1 0 X 1 Y1 1 B2 1
          obtain rfl := List.eq_nil_of_length_eq_zero hea
          have j1y : (s : Int) < m := by (have := HL2.out; try simp only [List.length_nil] at this); omega
          have j2y : (m : Int) < en := by (have := HL2.out; try simp only [List.length_nil] at this); omega
          have j3n : ¬ (a : Int) < s := by (have := HL2.out; try simp only [List.length_nil] at this); omega
          have j4y : (s : Int) < mid := by (have := HL2.out; try simp only [List.length_nil] at this); omega
          have j5y : (mid : Int) < en := by (have := HL2.out; try simp only [List.length_nil] at this); omega
          have j6y : (en : Int) < b := by (have := HL2.out; try simp only [List.length_nil] at this); omega
          have hC := HRo.out wr (by (have := HL2.out; try simp only [List.length_append, List.length_nil] at this ⊢) <;> omega) (by (have := HL2.out; try simp only [List.length_append, List.length_nil] at this ⊢) <;> omega) (by (have := HL2.out; try simp only [List.length_append, List.length_nil] at this ⊢) <;> omega) (by omega) (by omega) (by (have := HL2.out; try simp only [List.length_append, List.length_nil] at this ⊢) <;> omega) (by have := HRow.out; simpa using this)
          have HC := Lib.hid hC
          clear hC
          go_wp2_with fail
          refine HC.out.mono ?_
          rintro e w5 ⟨rfl, d5, rfl, ho5, hr5⟩
          have HRow5 := Lib.hid (show NRow NodeD.cells B g cap (P ++ (([] : List NodeD) ++ (Y1 ++ (X ++ (B2 ++ R))))) w5 by simpa using ho5)
          have HR5 := Lib.hid (HR.out.trans hr5)
          clear ho5 hr5 HC
          obtain ⟨M1, hM1⟩ : ∃ M1, M1 = ([] : List NodeD) ++ Y1 := ⟨_, rfl⟩
          have HRow6 := Lib.hid (show NRow NodeD.cells B g cap (P ++ (M1 ++ (X ++ (B2 ++ R)))) w5 by rw [hM1]; have := HRow5.out; simpa using this)
          have HR6 := HR5
          have HM1 := Lib.hid (show Srt leD M1 ∧ Stab leD (([] : List NodeD) ++ Y1) M1 from ⟨by rw [hM1]; first | (rw [List.nil_append]; exact HT3.out) | (rw [List.append_nil]; exact HT1.out), by rw [hM1]; exact Stab.refl _⟩)
          have hM1l : M1.length = ([] : List NodeD).length + Y1.length := by rw [hM1, List.length_append]
          clear hM1
          have HM1l := Lib.hid hM1l
          have hC := HIH.out (P ++ M1) X B2 R w5 mid en b (by (have := HL2.out; try simp only [List.length_append, List.length_nil] at this ⊢) <;> omega) (by (have := HL2.out; try simp only [List.length_append, List.length_nil] at this ⊢) <;> omega) (by (have := HL2.out; try simp only [List.length_append, List.length_nil] at this ⊢) <;> omega) (by (have := HL2.out; try simp only [List.length_append, List.length_nil] at this ⊢) <;> omega) (by omega) (by omega) (by (have := HL2.out; try simp only [List.length_append, List.length_nil] at this ⊢) <;> omega) HT2.out HT4.out (by have := HRow6.out; simpa using this)
          have HC := Lib.hid hC
          clear hC hM1l
          go_wp2_with fail
          refine HC.out.mono ?_
          rintro e w7 ⟨rfl, d7, ⟨M2, rfl, sM2, tM2⟩, ho7, hr7⟩
          have HF := Lib.hid (show ∃ C, (P ++ M1) ++ (M2 ++ R) = P ++ (C ++ R) ∧ Srt leD C ∧ Stab leD ((([] : List NodeD) ++ X) ++ (Y1 ++ B2)) C from ⟨M1 ++ M2, by simp, HM.out M1 M2 HM1.out.1 HM1.out.2 sM2 tM2⟩)
          have HRow7 := Lib.hid ho7
          have HR7 := Lib.hid (HR6.out.trans hr7)
          clear ho7 hr7 HC sM2 tM2
          clear HRow HRow5 HRow6 HR5 HR6 HM HM1 HIH HRo
          go_wp2
          try
            go_end0
            rw [HEE.out]
            exact ⟨rfl, _, HF.out, HRow7.out, HR7.out⟩
        · exfalso; have := HL2.out; omega
        · -- A1 1 X 0 Y1 0 B2 1
          obtain rfl := List.eq_nil_of_length_eq_zero hex
          obtain rfl := List.eq_nil_of_length_eq_zero hey
          have j1n : ¬ (s : Int) < m := by (have := HL2.out; try simp only [List.length_nil] at this); omega
          have j2n : ¬ (m : Int) < en := by (have := HL2.out; try simp only [List.length_nil] at this); omega
          have j3y : (a : Int) < s := by (have := HL2.out; try simp only [List.length_nil] at this); omega
          have j4n : ¬ (s : Int) < mid := by (have := HL2.out; try simp only [List.length_nil] at this); omega
          have j5n : ¬ (mid : Int) < en := by (have := HL2.out; try simp only [List.length_nil] at this); omega
          have j6y : (en : Int) < b := by (have := HL2.out; try simp only [List.length_nil] at this); omega
          have HRow5 := Lib.hid (show NRow NodeD.cells B g cap (P ++ (A1 ++ (([] : List NodeD) ++ (([] : List NodeD) ++ (B2 ++ R))))) wr by have := HRow.out; simpa using this)
          have HR5 := HR
          obtain ⟨M1, hM1⟩ : ∃ M1, M1 = A1 ++ ([] : List NodeD) := ⟨_, rfl⟩
          have HRow6 := Lib.hid (show NRow NodeD.cells B g cap (P ++ (M1 ++ (([] : List NodeD) ++ (B2 ++ R)))) wr by rw [hM1]; have := HRow5.out; simpa using this)
          have HR6 := HR5
          have HM1 := Lib.hid (show Srt leD M1 ∧ Stab leD (A1 ++ ([] : List NodeD)) M1 from ⟨by rw [hM1]; first | (rw [List.nil_append]; exact HT3.out) | (rw [List.append_nil]; exact HT1.out), by rw [hM1]; exact Stab.refl _⟩)
          have hM1l : M1.length = A1.length + ([] : List NodeD).length := by rw [hM1, List.length_append]
          clear hM1
          obtain ⟨M2, hM2⟩ : ∃ M2, M2 = ([] : List NodeD) ++ B2 := ⟨_, rfl⟩
          have HRow7 := Lib.hid (show NRow NodeD.cells B g cap ((P ++ M1) ++ (M2 ++ R)) wr by rw [hM2]; have := HRow6.out; simpa using this)
          have HR7 := HR6
          have HF := Lib.hid (show ∃ C, (P ++ M1) ++ (M2 ++ R) = P ++ (C ++ R) ∧ Srt leD C ∧ Stab leD ((A1 ++ ([] : List NodeD)) ++ (([] : List NodeD) ++ B2)) C from ⟨M1 ++ M2, by simp, HM.out M1 M2 HM1.out.1 HM1.out.2 (by rw [hM2]; first | (rw [List.nil_append]; exact HT4.out) | (rw [List.append_nil]; exact HT2.out)) (by rw [hM2]; exact Stab.refl _)⟩)
          clear hM2 hM1l
          clear HRow HRow5 HRow6 HR5 HR6 HM HM1 HIH HRo
          go_wp2
          try
            go_end0
            rw [HEE.out]
            exact ⟨rfl, _, HF.out, HRow7.out, HR7.out⟩
        · -- A1 1 X 0 Y1 1 B2 0
          obtain rfl := List.eq_nil_of_length_eq_zero hex
          obtain rfl := List.eq_nil_of_length_eq_zero heb
          have j1n : ¬ (s : Int) < m := by (have := HL2.out; try simp only [List.length_nil] at this); omega
          have j2y : (m : Int) < en := by (have := HL2.out; try simp only [List.length_nil] at this); omega
          have j3y : (a : Int) < s := by (have := HL2.out; try simp only [List.length_nil] at this); omega
          have j4y : (s : Int) < mid := by (have := HL2.out; try simp only [List.length_nil] at this); omega
          have j5n : ¬ (mid : Int) < en := by (have := HL2.out; try simp only [List.length_nil] at this); omega
          have j6n : ¬ (en : Int) < b := by (have := HL2.out; try simp only [List.length_nil] at this); omega
          have HRow5 := Lib.hid (show NRow NodeD.cells B g cap (P ++ (A1 ++ (Y1 ++ (([] : List NodeD) ++ (([] : List NodeD) ++ R))))) wr by have := HRow.out; simpa using this)
          have HR5 := HR
          have hC := HIH.out P A1 Y1 (([] : List NodeD) ++ (([] : List NodeD) ++ R)) wr a s mid (by (have := HL2.out; try simp only [List.length_append, List.length_nil] at this ⊢) <;> omega) (by (have := HL2.out; try simp only [List.length_append, List.length_nil] at this ⊢) <;> omega) (by (have := HL2.out; try simp only [List.length_append, List.length_nil] at this ⊢) <;> omega) (by (have := HL2.out; try simp only [List.length_append, List.length_nil] at this ⊢) <;> omega) (by omega) (by omega) (by (have := HL2.out; try simp only [List.length_append, List.length_nil] at this ⊢) <;> omega) HT1.out HT3.out HRow5.out
          have HC := Lib.hid hC
          clear hC
          go_wp2_with fail
          refine HC.out.mono ?_
          rintro e w6 ⟨rfl, d6, ⟨M1, rfl, sM1, tM1⟩, ho6, hr6⟩
          have HRow6 := Lib.hid ho6
          have HR6 := Lib.hid (HR5.out.trans hr6)
          have HM1 := Lib.hid (show Srt leD M1 ∧ Stab leD (A1 ++ Y1) M1 from ⟨sM1, tM1⟩)
          have hM1l : M1.length = A1.length + Y1.length := by rw [tM1.1, List.length_append]
          clear ho6 hr6 HC sM1 tM1
          obtain ⟨M2, hM2⟩ : ∃ M2, M2 = ([] : List NodeD) ++ ([] : List NodeD) := ⟨_, rfl⟩
          have HRow7 := Lib.hid (show NRow NodeD.cells B g cap ((P ++ M1) ++ (M2 ++ R)) w6 by rw [hM2]; have := HRow6.out; simpa using this)
          have HR7 := HR6
          have HF := Lib.hid (show ∃ C, (P ++ M1) ++ (M2 ++ R) = P ++ (C ++ R) ∧ Srt leD C ∧ Stab leD ((A1 ++ ([] : List NodeD)) ++ (Y1 ++ ([] : List NodeD))) C from ⟨M1 ++ M2, by simp, HM.out M1 M2 HM1.out.1 HM1.out.2 (by rw [hM2]; first | (rw [List.nil_append]; exact HT4.out) | (rw [List.append_nil]; exact HT2.out)) (by rw [hM2]; exact Stab.refl _)⟩)
          clear hM2 hM1l
          clear HRow HRow5 HRow6 HR5 HR6 HM HM1 HIH HRo
          go_wp2
          try
            go_end0
            rw [HEE.out]
            exact ⟨rfl, _, HF.out, HRow7.out, HR7.out⟩
        · -- A1 1 X 0 Y1 1 B2 1
          obtain rfl := List.eq_nil_of_length_eq_zero hex
          have j1n : ¬ (s : Int) < m := by (have := HL2.out; try simp only [List.length_nil] at this); omega
          have j2y : (m : Int) < en := by (have := HL2.out; try simp only [List.length_nil] at this); omega
          have j3y : (a : Int) < s := by (have := HL2.out; try simp only [List.length_nil] at this); omega
          have j4y : (s : Int) < mid := by (have := HL2.out; try simp only [List.length_nil] at this); omega
          have j5n : ¬ (mid : Int) < en := by (have := HL2.out; try simp only [List.length_nil] at this); omega
          have j6y : (en : Int) < b := by (have := HL2.out; try simp only [List.length_nil] at this); omega
          have HRow5 := Lib.hid (show NRow NodeD.cells B g cap (P ++ (A1 ++ (Y1 ++ (([] : List NodeD) ++ (B2 ++ R))))) wr by have := HRow.out; simpa using this)
          have HR5 := HR
          have hC := HIH.out P A1 Y1 (([] : List NodeD) ++ (B2 ++ R)) wr a s mid (by (have := HL2.out; try simp only [List.length_append, List.length_nil] at this ⊢) <;> omega) (by (have := HL2.out; try simp only [List.length_append, List.length_nil] at this ⊢) <;> omega) (by (have := HL2.out; try simp only [List.length_append, List.length_nil] at this ⊢) <;> omega) (by (have := HL2.out; try simp only [List.length_append, List.length_nil] at this ⊢) <;> omega) (by omega) (by omega) (by (have := HL2.out; try simp only [List.length_append, List.length_nil] at this ⊢) <;> omega) HT1.out HT3.out HRow5.out
          have HC := Lib.hid hC
          clear hC
          go_wp2_with fail
          refine HC.out.mono ?_
          rintro e w6 ⟨rfl, d6, ⟨M1, rfl, sM1, tM1⟩, ho6, hr6⟩
          have HRow6 := Lib.hid ho6
          have HR6 := Lib.hid (HR5.out.trans hr6)
          have HM1 := Lib.hid (show Srt leD M1 ∧ Stab leD (A1 ++ Y1) M1 from ⟨sM1, tM1⟩)
          have hM1l : M1.length = A1.length + Y1.length := by rw [tM1.1, List.length_append]
          clear ho6 hr6 HC sM1 tM1
          obtain ⟨M2, hM2⟩ : ∃ M2, M2 = ([] : List NodeD) ++ B2 := ⟨_, rfl⟩
          have HRow7 := Lib.hid (show NRow NodeD.cells B g cap ((P ++ M1) ++ (M2 ++ R)) w6 by rw [hM2]; have := HRow6.out; simpa using this)
          have HR7 := HR6
          have HF := Lib.hid (show ∃ C, (P ++ M1) ++ (M2 ++ R) = P ++ (C ++ R) ∧ Srt leD C ∧ Stab leD ((A1 ++ ([] : List NodeD)) ++ (Y1 ++ B2)) C from ⟨M1 ++ M2, by simp, HM.out M1 M2 HM1.out.1 HM1.out.2 (by rw [hM2]; first | (rw [List.nil_append]; exact HT4.out) | (rw [List.append_nil]; exact HT2.out)) (by rw [hM2]; exact Stab.refl _)⟩)
          clear hM2 hM1l
          clear HRow HRow5 HRow6 HR5 HR6 HM HM1 HIH HRo
          go_wp2
          try
            go_end0
            rw [HEE.out]
            exact ⟨rfl, _, HF.out, HRow7.out, HR7.out⟩
        · exfalso; have := HL2.out; omega
        · -- A1 1 X 1 Y1 0 B2 1
          obtain rfl := List.eq_nil_of_length_eq_zero hey
          have j1y : (s : Int) < m := by (have := HL2.out; try simp only [List.length_nil] at this); omega
          have j2n : ¬ (m : Int) < en := by (have := HL2.out; try simp only [List.length_nil] at this); omega
          have j3y : (a : Int) < s := by (have := HL2.out; try simp only [List.length_nil] at this); omega
          have j4n : ¬ (s : Int) < mid := by (have := HL2.out; try simp only [List.length_nil] at this); omega
          have j5y : (mid : Int) < en := by (have := HL2.out; try simp only [List.length_nil] at this); omega
          have j6y : (en : Int) < b := by (have := HL2.out; try simp only [List.length_nil] at this); omega
          have HRow5 := Lib.hid (show NRow NodeD.cells B g cap (P ++ (A1 ++ (([] : List NodeD) ++ (X ++ (B2 ++ R))))) wr by have := HRow.out; simpa using this)
          have HR5 := HR
          obtain ⟨M1, hM1⟩ : ∃ M1, M1 = A1 ++ ([] : List NodeD) := ⟨_, rfl⟩
          have HRow6 := Lib.hid (show NRow NodeD.cells B g cap (P ++ (M1 ++ (X ++ (B2 ++ R)))) wr by rw [hM1]; have := HRow5.out; simpa using this)
          have HR6 := HR5
          have HM1 := Lib.hid (show Srt leD M1 ∧ Stab leD (A1 ++ ([] : List NodeD)) M1 from ⟨by rw [hM1]; first | (rw [List.nil_append]; exact HT3.out) | (rw [List.append_nil]; exact HT1.out), by rw [hM1]; exact Stab.refl _⟩)
          have hM1l : M1.length = A1.length + ([] : List NodeD).length := by rw [hM1, List.length_append]
          clear hM1
          have HM1l := Lib.hid hM1l
          have hC := HIH.out (P ++ M1) X B2 R wr mid en b (by (have := HL2.out; try simp only [List.length_append, List.length_nil] at this ⊢) <;> omega) (by (have := HL2.out; try simp only [List.length_append, List.length_nil] at this ⊢) <;> omega) (by (have := HL2.out; try simp only [List.length_append, List.length_nil] at this ⊢) <;> omega) (by (have := HL2.out; try simp only [List.length_append, List.length_nil] at this ⊢) <;> omega) (by omega) (by omega) (by (have := HL2.out; try simp only [List.length_append, List.length_nil] at this ⊢) <;> omega) HT2.out HT4.out (by have := HRow6.out; simpa using this)
          have HC := Lib.hid hC
          clear hC hM1l
          go_wp2_with fail
          refine HC.out.mono ?_
          rintro e w7 ⟨rfl, d7, ⟨M2, rfl, sM2, tM2⟩, ho7, hr7⟩
          have HF := Lib.hid (show ∃ C, (P ++ M1) ++ (M2 ++ R) = P ++ (C ++ R) ∧ Srt leD C ∧ Stab leD ((A1 ++ X) ++ (([] : List NodeD) ++ B2)) C from ⟨M1 ++ M2, by simp, HM.out M1 M2 HM1.out.1 HM1.out.2 sM2 tM2⟩)
          have HRow7 := Lib.hid ho7
          have HR7 := Lib.hid (HR6.out.trans hr7)
          clear ho7 hr7 HC sM2 tM2
          clear HRow HRow5 HRow6 HR5 HR6 HM HM1 HIH HRo
          go_wp2
          try
            go_end0
            rw [HEE.out]
            exact ⟨rfl, _, HF.out, HRow7.out, HR7.out⟩
        · -- A1 1 X 1 Y1 1 B2 0
          obtain rfl := List.eq_nil_of_length_eq_zero heb
          have j1y : (s : Int) < m := by (have := HL2.out; try simp only [List.length_nil] at this); omega
          have j2y : (m : Int) < en := by (have := HL2.out; try simp only [List.length_nil] at this); omega
          have j3y : (a : Int) < s := by (have := HL2.out; try simp only [List.length_nil] at this); omega
          have j4y : (s : Int) < mid := by (have := HL2.out; try simp only [List.length_nil] at this); omega
          have j5y : (mid : Int) < en := by (have := HL2.out; try simp only [List.length_nil] at this); omega
          have j6n : ¬ (en : Int) < b := by (have := HL2.out; try simp only [List.length_nil] at this); omega
          have hC := HRo.out wr (by (have := HL2.out; try simp only [List.length_append, List.length_nil] at this ⊢) <;> omega) (by (have := HL2.out; try simp only [List.length_append, List.length_nil] at this ⊢) <;> omega) (by (have := HL2.out; try simp only [List.length_append, List.length_nil] at this ⊢) <;> omega) (by omega) (by omega) (by (have := HL2.out; try simp only [List.length_append, List.length_nil] at this ⊢) <;> omega) (by have := HRow.out; simpa using this)
          have HC := Lib.hid hC
          clear hC
          go_wp2_with fail
          refine HC.out.mono ?_
          rintro e w5 ⟨rfl, d5, rfl, ho5, hr5⟩
          have HRow5 := Lib.hid (show NRow NodeD.cells B g cap (P ++ (A1 ++ (Y1 ++ (X ++ (([] : List NodeD) ++ R))))) w5 by simpa using ho5)
          have HR5 := Lib.hid (HR.out.trans hr5)
          clear ho5 hr5 HC
          have hC := HIH.out P A1 Y1 (X ++ (([] : List NodeD) ++ R)) w5 a s mid (by (have := HL2.out; try simp only [List.length_append, List.length_nil] at this ⊢) <;> omega) (by (have := HL2.out; try simp only [List.length_append, List.length_nil] at this ⊢) <;> omega) (by (have := HL2.out; try simp only [List.length_append, List.length_nil] at this ⊢) <;> omega) (by (have := HL2.out; try simp only [List.length_append, List.length_nil] at this ⊢) <;> omega) (by omega) (by omega) (by (have := HL2.out; try simp only [List.length_append, List.length_nil] at this ⊢) <;> omega) HT1.out HT3.out HRow5.out
          have HC := Lib.hid hC
          clear hC
          go_wp2_with fail
          refine HC.out.mono ?_
          rintro e w6 ⟨rfl, d6, ⟨M1, rfl, sM1, tM1⟩, ho6, hr6⟩
          have HRow6 := Lib.hid ho6
          have HR6 := Lib.hid (HR5.out.trans hr6)
          have HM1 := Lib.hid (show Srt leD M1 ∧ Stab leD (A1 ++ Y1) M1 from ⟨sM1, tM1⟩)
          have hM1l : M1.length = A1.length + Y1.length := by rw [tM1.1, List.length_append]
          clear ho6 hr6 HC sM1 tM1
          obtain ⟨M2, hM2⟩ : ∃ M2, M2 = X ++ ([] : List NodeD) := ⟨_, rfl⟩
          have HRow7 := Lib.hid (show NRow NodeD.cells B g cap ((P ++ M1) ++ (M2 ++ R)) w6 by rw [hM2]; have := HRow6.out; simpa using this)
          have HR7 := HR6
          have HF := Lib.hid (show ∃ C, (P ++ M1) ++ (M2 ++ R) = P ++ (C ++ R) ∧ Srt leD C ∧ Stab leD ((A1 ++ X) ++ (Y1 ++ ([] : List NodeD))) C from ⟨M1 ++ M2, by simp, HM.out M1 M2 HM1.out.1 HM1.out.2 (by rw [hM2]; first | (rw [List.nil_append]; exact HT4.out) | (rw [List.append_nil]; exact HT2.out)) (by rw [hM2]; exact Stab.refl _)⟩)
          clear hM2 hM1l
          clear HRow HRow5 HRow6 HR5 HR6 HM HM1 HIH HRo
          go_wp2
          try
            go_end0
            rw [HEE.out]
            exact ⟨rfl, _, HF.out, HRow7.out, HR7.out⟩
        · -- A1 1 X 1 Y1 1 B2 1
          have j1y : (s : Int) < m := by (have := HL2.out; try simp only [List.length_nil] at this); omega
          have j2y : (m : Int) < en := by (have := HL2.out; try simp only [List.length_nil] at this); omega
          have j3y : (a : Int) < s := by (have := HL2.out; try simp only [List.length_nil] at this); omega
          have j4y : (s : Int) < mid := by (have := HL2.out; try simp only [List.length_nil] at this); omega
          have j5y : (mid : Int) < en := by (have := HL2.out; try simp only [List.length_nil] at this); omega
          have j6y : (en : Int) < b := by (have := HL2.out; try simp only [List.length_nil] at this); omega
          have hC := HRo.out wr (by (have := HL2.out; try simp only [List.length_append, List.length_nil] at this ⊢) <;> omega) (by (have := HL2.out; try simp only [List.length_append, List.length_nil] at this ⊢) <;> omega) (by (have := HL2.out; try simp only [List.length_append, List.length_nil] at this ⊢) <;> omega) (by omega) (by omega) (by (have := HL2.out; try simp only [List.length_append, List.length_nil] at this ⊢) <;> omega) (by have := HRow.out; simpa using this)
          have HC := Lib.hid hC
          clear hC
          go_wp2_with fail
          refine HC.out.mono ?_
          rintro e w5 ⟨rfl, d5, rfl, ho5, hr5⟩
          have HRow5 := Lib.hid (show NRow NodeD.cells B g cap (P ++ (A1 ++ (Y1 ++ (X ++ (B2 ++ R))))) w5 by simpa using ho5)
          have HR5 := Lib.hid (HR.out.trans hr5)
          clear ho5 hr5 HC
          have hC := HIH.out P A1 Y1 (X ++ (B2 ++ R)) w5 a s mid (by (have := HL2.out; try simp only [List.length_append, List.length_nil] at this ⊢) <;> omega) (by (have := HL2.out; try simp only [List.length_append, List.length_nil] at this ⊢) <;> omega) (by (have := HL2.out; try simp only [List.length_append, List.length_nil] at this ⊢) <;> omega) (by (have := HL2.out; try simp only [List.length_append, List.length_nil] at this ⊢) <;> omega) (by omega) (by omega) (by (have := HL2.out; try simp only [List.length_append, List.length_nil] at this ⊢) <;> omega) HT1.out HT3.out HRow5.out
          have HC := Lib.hid hC
          clear hC
          go_wp2_with fail
          refine HC.out.mono ?_
          rintro e w6 ⟨rfl, d6, ⟨M1, rfl, sM1, tM1⟩, ho6, hr6⟩
          have HRow6 := Lib.hid ho6
          have HR6 := Lib.hid (HR5.out.trans hr6)
          have HM1 := Lib.hid (show Srt leD M1 ∧ Stab leD (A1 ++ Y1) M1 from ⟨sM1, tM1⟩)
          have hM1l : M1.length = A1.length + Y1.length := by rw [tM1.1, List.length_append]
          clear ho6 hr6 HC sM1 tM1
          have HM1l := Lib.hid hM1l
          have hC := HIH.out (P ++ M1) X B2 R w6 mid en b (by (have := HL2.out; try simp only [List.length_append, List.length_nil] at this ⊢) <;> omega) (by (have := HL2.out; try simp only [List.length_append, List.length_nil] at this ⊢) <;> omega) (by (have := HL2.out; try simp only [List.length_append, List.length_nil] at this ⊢) <;> omega) (by (have := HL2.out; try simp only [List.length_append, List.length_nil] at this ⊢) <;> omega) (by omega) (by omega) (by (have := HL2.out; try simp only [List.length_append, List.length_nil] at this ⊢) <;> omega) HT2.out HT4.out (by have := HRow6.out; simpa using this)
          have HC := Lib.hid hC
          clear hC hM1l
          go_wp2_with fail
          refine HC.out.mono ?_
          rintro e w7 ⟨rfl, d7, ⟨M2, rfl, sM2, tM2⟩, ho7, hr7⟩
          have HF := Lib.hid (show ∃ C, (P ++ M1) ++ (M2 ++ R) = P ++ (C ++ R) ∧ Srt leD C ∧ Stab leD ((A1 ++ X) ++ (Y1 ++ B2)) C from ⟨M1 ++ M2, by simp, HM.out M1 M2 HM1.out.1 HM1.out.2 sM2 tM2⟩)
          have HRow7 := Lib.hid ho7
          have HR7 := Lib.hid (HR6.out.trans hr7)
          clear ho7 hr7 HC sM2 tM2
          clear HRow HRow5 HRow6 HR5 HR6 HM HM1 HIH HRo
          go_wp2
          try
            go_end0
            rw [HEE.out]
            exact ⟨rfl, _, HF.out, HRow7.out, HR7.out⟩
theorem sym_any (B g cap L : Nat) (hs : L ≤ 1000000000000) : ∀ N, SymIH B g cap L N
  | 0 => fun _ _ _ _ _ _ _ _ h0 _ _ _ h1 _ _ _ _ _ => by omega
  | N + 1 => fun P A Y R w a m b hN ha hm hb hA0 hY0 hL hA hY h => by
    rcases Nat.lt_or_ge 1 A.length with hA1 | hA1
    case inr =>
      obtain ⟨x, rfl⟩ : ∃ x, A = [x] := List.length_eq_one_iff.1 (by omega)
      exact sym_left B g cap P Y R x w a m b L ha hm (by rw [hb]; rfl) hL hY h hs
    rcases Nat.lt_or_ge 1 Y.length with hY1 | hY1
    case inr =>
      obtain ⟨y, rfl⟩ : ∃ y, Y = [y] := List.length_eq_one_iff.1 (by omega)
      exact sym_right B g cap P A R y w a m b L ha hm (by rw [hb]; rfl) hA1 hL hA h hs
    by_cases hmm : (a + b) / 2 < m
    · exact sym_both B g cap L hs N (sym_any B g cap L hs N) P A Y R w a m b _ _ _ hN ha hm hb hA1 hY1 hL hA hY h rfl (.inl ⟨hmm, rfl, rfl⟩)
    · exact sym_both B g cap L hs N (sym_any B g cap L hs N) P A Y R w a m b _ _ _ hN ha hm hb hA1 hY1 hL hA hY h rfl (.inr ⟨hmm, rfl, rfl⟩)
end Go.Proofs.YtjkiehmjffgnlaaGreatDoor
namespace Go.Proofs.YtjkiehmjffgnlaaGreatDoor
set_option linter.unusedVariables false
set_option linter.unusedSimpArgs false
open Go.RowKit

/-- sorted block by block, the last one is shorter, if any. -/
inductive Blk (k : Nat) : List NodeD → Prop
  | last (l : List NodeD) (h : l.length ≤ k) (s : Srt leD l) : Blk k l
  | more (c l : List NodeD) (h : c.length = k) (s : Srt leD c) (r : Blk k l) : Blk k (c ++ l)
inductive BlkF (k : Nat) : List NodeD → Prop
  | nil : BlkF k []
  | snoc (P c : List NodeD) (h : c.length = k) (s : Srt leD c) (r : BlkF k P) : BlkF k (P ++ c)
theorem BlkF.blk {k : Nat} {P : List NodeD} (h : BlkF k P) : ∀ {T : List NodeD}, Blk k T → Blk k (P ++ T) := by
  induction h with
  | nil => intro T hT; exact hT
  | snoc P c h s r ih =>
    intro T hT
    rw [List.append_assoc]
    exact ih (Blk.more c T h s hT)
theorem Blk.short {k : Nat} {l : List NodeD} (h : Blk k l) (hl : l.length ≤ k) : Srt leD l := by
  cases h with
  | last _ h s => exact s
  | more c l h s r =>
    rw [List.length_append] at hl
    obtain rfl : l = [] := List.eq_nil_of_length_eq_zero (by omega)
    rw [List.append_nil]
    exact s
theorem Blk.one {k : Nat} {l : List NodeD} (h : Blk k l) (hl : k < l.length) : ∃ c r, l = c ++ r ∧ c.length = k ∧ Srt leD c ∧ Blk k r := by
  cases h with
  | last _ h s => omega
  | more c l h s r => exact ⟨c, l, rfl, h, s, r⟩
theorem Blk.full {k : Nat} {l : List NodeD} (h : Blk k l) (hl : k ≤ l.length) : ∃ c r, l = c ++ r ∧ c.length = k ∧ Srt leD c ∧ Blk k r := by
  cases h with
  | last _ h s => exact ⟨l, [], (List.append_nil _).symm, by omega, s, .last _ (Nat.zero_le _) List.Pairwise.nil⟩
  | more c l h s r => exact ⟨c, l, rfl, h, s, r⟩
set_option maxHeartbeats 64000000 in
set_option maxRecDepth 100000 in
set_option linter.unusedSimpArgs false in
theorem stable_any (B g cap : Nat) (d : List NodeD) (w : World) (n : Nat) (hn : n = d.length) (h : NRow NodeD.cells B g cap d w) (hs : n ≤ 1000000000000) :
    Calls Tryz.prog 42 #[.slice (some ⟨g, 0, none⟩) n cap, .int .i64 n, .func (.func 23) #[] #[]] w (SoP NodeD.cells B g cap (fun d' => Srt leD d' ∧ Stab leD d d') w) := by
  obtain ⟨E, hEE⟩ : ∃ E, E = SoP NodeD.cells B g cap (fun d' => Srt leD d' ∧ Stab leD d d') w := ⟨_, rfl⟩
  rw [← hEE]
  have HEE := Lib.hid hEE
  have HO0 := Lib.hid h
  have HIns := Lib.hid (fun (P A R : List NodeD) (w : World) (a b : Nat) h1 h2 h3 h4 => insertion_any B g cap P A R w a b n h1 h2 h3 h4 hs)
  have HSym := Lib.hid (sym_any B g cap n hs)
  have HN := Lib.hid hn
  clear h hEE hn
  go_enter Tryz.func42, Tryz.ntmps42
  go_wp2_with fail
  go_loopg [7, 8] n (fun gk v7 v8 wr => ∃ (P T : List NodeD) (a b : Nat), T.length ≤ gk ∧ v7 = .int .i64 a ∧ v8 = .int .i64 b ∧ Hid (a = P.length ∧ b = a + 20 ∧ n = P.length + T.length) ∧ Hid (BlkF 20 P) ∧ Hid (Stab leD d (P ++ T)) ∧ Hid (NRow NodeD.cells B g cap (P ++ T) wr) ∧ Hid (RGr (some g) (some g) w wr))
  case atStart => exact ⟨[], d, 0, 20, by rw [HN.out]; exact Nat.le_refl _, by go_num, by go_num, Lib.hid ⟨rfl, rfl, by rw [HN.out]; simp⟩, Lib.hid .nil, Lib.hid (Stab.refl _), HO0, Lib.hid (RGr.refl _ _)⟩
  case round =>
    obtain ⟨P, T, a, b, hT, rfl, rfl, HL, HB, HSt, HO, HR⟩ := hrel
    clear HO0
    by_cases hbn : b ≤ n
    · obtain ⟨c, hc⟩ : ∃ c, c = T.take 20 := ⟨_, rfl⟩
      obtain ⟨T', hT'⟩ : ∃ t, t = T.drop 20 := ⟨_, rfl⟩
      have hTT : T = c ++ T' := by rw [hc, hT', List.take_append_drop]
      have hcl : c.length = 20 := by have := HL.out; rw [hc, List.length_take]; omega
      have hTl : T'.length + 20 = T.length := by rw [hTT, List.length_append]; omega
      subst hTT
      have hC := HIns.out P c T' wr a b HL.out.1 (by have := HL.out; omega) (by have := HL.out; simp only [List.length_append] at this ⊢; omega) HO.out
      have HC := Lib.hid hC
      have HCl := Lib.hid hcl
      have k1 : (b : Int) ≤ n := by omega
      have hgk : T'.length + 1 ≤ gk := by omega
      clear hC hc hT' hTl hcl HO hT
      go_wp2_with fail
      refine HC.out.mono ?_
      rintro e w5 ⟨rfl, d5, ⟨c', rfl, sc, tc⟩, ho, hr⟩
      have HO5 := Lib.hid (show NRow NodeD.cells B g cap ((P ++ c') ++ T') w5 by rw [List.append_assoc]; exact ho)
      have HR5 := Lib.hid (HR.out.trans hr)
      have hcl' : c'.length = 20 := by rw [tc.1]; exact HCl.out
      have HB5 := Lib.hid (BlkF.snoc P c' hcl' sc HB.out)
      have HSt5 := Lib.hid (show Stab leD d ((P ++ c') ++ T') from Stab.trans HSt.out (by rw [List.append_assoc]; exact (Stab.refl P).app (tc.app (Stab.refl T'))))
      obtain ⟨b', hb'⟩ : ∃ b', b' = b + 20 := ⟨_, rfl⟩
      have HL5 := Lib.hid (show b = (P ++ c').length ∧ b' = b + 20 ∧ n = (P ++ c').length + T'.length by
        have h1 := HL.out
        have h2 := HCl.out
        have h3 : (c ++ T').length = c.length + T'.length := List.length_append
        have h4 : (P ++ c').length = P.length + c'.length := List.length_append
        omega)
      clear ho hr HC HR HB HSt HL HCl sc tc hcl'
      have m1 : IntKind.i64.wrap ((b : Int) + 20) = (b' : Int) := by rw [IntWalk.i64_in _ (by omega)]; omega
      clear hb'
      go_wp2
      go_roundg (gk - 1)
      case measure => omega
      case rel => exact ⟨P ++ c', T', b, b', by omega, rfl, by go_num, HL5, HB5, HSt5, HO5, HR5⟩
    · have k1 : ¬ (b : Int) ≤ n := by omega
      have hC := HIns.out P T [] wr a n HL.out.1 HL.out.2.2 (by have := HL.out; simp only [List.length_append, List.length_nil] at this ⊢; omega) (by rw [List.append_nil]; exact HO.out)
      have HC := Lib.hid hC
      have HTl := Lib.hid (show T.length ≤ 20 by have := HL.out; omega)
      clear hC HO hT
      go_wp2_with fail
      refine HC.out.mono ?_
      rintro e w5 ⟨rfl, d5, ⟨T', rfl, sT, tT⟩, ho, hr⟩
      have HO5 := Lib.hid (show NRow NodeD.cells B g cap (P ++ T') w5 by rw [List.append_nil] at ho; exact ho)
      have HR5 := Lib.hid (HR.out.trans hr)
      have HB5 := Lib.hid (HB.out.blk (.last T' (by rw [tT.1]; exact HTl.out) sT))
      have HSt5 := Lib.hid (show Stab leD d (P ++ T') from Stab.trans HSt.out ((Stab.refl P).app tT))
      have HL5 := Lib.hid (show n = (P ++ T').length by have := HL.out; rw [List.length_append, tT.1]; exact this.2.2)
      clear ho hr HC HR HB HSt HL HTl sT tT
      generalize P ++ T' = D0 at *
      go_wp2_with fail
      generalize wr = W0 at *
      go_loopg [6] n (fun gk v6 wr => ∃ (k : Nat) (D : List NodeD), n - k ≤ gk ∧ v6 = .int .i64 k ∧ 20 ≤ k ∧ k ≤ 2 * n + 20 ∧ Hid (n = D.length) ∧ Hid (Blk k D) ∧ Hid (Stab leD d D) ∧ Hid (NRow NodeD.cells B g cap D wr) ∧ Hid (RGr (some g) (some g) w wr))
      case atStart => exact ⟨20, D0, by omega, by go_num, Nat.le_refl _, by omega, HL5, HB5, HSt5, HO5, HR5⟩
      case round =>
        obtain ⟨k, D, hgk, rfl, hk20, hk2, HL, HB, HSt, HO, HR⟩ := hrel
        clear HL5 HB5 HSt5 HO5 HR5
        by_cases hkn : k < n
        · have k2 : (k : Int) < n := by omega
          obtain ⟨kk, hkk⟩ : ∃ kk, kk = 2 * k := ⟨_, rfl⟩
          have m1 : IntKind.i64.wrap (2 * (k : Int)) = (kk : Int) := by rw [IntWalk.i64_in _ (by omega)]; omega
          have m2 : IntKind.i64.wrap ((k : Int) * 2) = (kk : Int) := by rw [IntWalk.i64_in _ (by omega)]; omega
          have HKK := Lib.hid hkk
          have hkkn : kk ≤ 2 * n := by omega
          have hgk2 : n - kk + 1 ≤ gk := by omega
          clear hkk
          go_wp2_with fail
          generalize wr = W1 at *
          go_loopg [7, 8] n (fun gk v7 v8 wr => ∃ (P T : List NodeD) (a b : Nat), T.length ≤ gk ∧ v7 = .int .i64 a ∧ v8 = .int .i64 b ∧ Hid (a = P.length ∧ b = a + kk ∧ n = P.length + T.length) ∧ Hid (BlkF kk P) ∧ Hid (Blk k T) ∧ Hid (Stab leD d (P ++ T)) ∧ Hid (NRow NodeD.cells B g cap (P ++ T) wr) ∧ Hid (RGr (some g) (some g) w wr))
          case atStart => exact ⟨[], D, 0, kk, by rw [← HL.out]; exact Nat.le_refl _, by go_num, rfl, Lib.hid ⟨rfl, by omega, by rw [HL.out]; simp⟩, Lib.hid .nil, HB, HSt, HO, HR⟩
          case round =>
            obtain ⟨P, T, a, b, hT, rfl, rfl, HL2, HBF, HB2, HSt2, HO2, HR2⟩ := hrel
            clear HB HSt HO HR HL
            have m3 : IntKind.i64.wrap ((a : Int) + k) = ((a + k : Nat) : Int) := by have := HL2.out; rw [IntWalk.i64_in _ (by omega)]; omega
            by_cases hbn2 : b ≤ n
            · obtain ⟨c1, r1, hr1, l1, s1, b1⟩ := HB2.out.one (by have := HL2.out; have := HKK.out; omega)
              obtain ⟨c2, T', hr2, l2, s2, b2⟩ := b1.full (by have := HL2.out; have := HKK.out; have := congrArg List.length hr1; rw [List.length_append] at this; omega)
              subst hr2
              subst hr1
              have hC := HSym.out n P c1 c2 T' wr a (a + k) b (by have h9 := HL2.out; have := HKK.out; simp only [List.length_append] at h9; omega) HL2.out.1 (by have := HL2.out; omega) (by have := HL2.out; have := HKK.out; omega) (by omega) (by omega) (by have := HL2.out; simp only [List.length_append] at this ⊢; omega) s1 s2 HO2.out
              have HC := Lib.hid hC
              have HCl := Lib.hid (⟨l1, l2, b2⟩ : c1.length = k ∧ c2.length = k ∧ Blk k T')
              have k3 : (b : Int) ≤ n := by omega
              have hgk3 : T'.length + 1 ≤ gk := by simp only [List.length_append] at hT; omega
              have m4 : IntKind.i64.wrap ((b : Int) + kk) = ((b + kk : Nat) : Int) := by rw [IntWalk.i64_in _ (by omega)]; omega
              clear hC l1 l2 s1 s2 b1 b2 HO2 hT HB2
              go_wp2_with fail
              refine HC.out.mono ?_
              rintro e w5 ⟨rfl, d5, ⟨C, rfl, sc, tc⟩, ho, hr⟩
              have HO5 := Lib.hid (show NRow NodeD.cells B g cap ((P ++ C) ++ T') w5 by rw [List.append_assoc]; exact ho)
              have HR5 := Lib.hid (HR2.out.trans hr)
              have hcl' : C.length = kk := by rw [tc.1, List.length_append]; have := HCl.out; have := HKK.out; omega
              have HB5 := Lib.hid (BlkF.snoc P C hcl' sc HBF.out)
              have HB6 := Lib.hid HCl.out.2.2
              have HSt5 := Lib.hid (show Stab leD d ((P ++ C) ++ T') from Stab.trans HSt2.out (by
                have := (Stab.refl (le := leD) P).app (tc.app (Stab.refl T'))
                simpa using this))
              obtain ⟨b', hb'⟩ : ∃ b', b' = b + kk := ⟨_, rfl⟩
              have HL5 := Lib.hid (show b = (P ++ C).length ∧ b' = b + kk ∧ n = (P ++ C).length + T'.length by
                have h1 := HL2.out
                have h2 := HCl.out
                have h3 := HKK.out
                have h5 : (c1 ++ (c2 ++ T')).length = c1.length + (c2.length + T'.length) := by rw [List.length_append, List.length_append]
                have h4 : (P ++ C).length = P.length + C.length := List.length_append
                omega)
              rw [← hb'] at m4
              clear ho hr HC HR2 HBF HSt2 HL2 HCl sc tc hcl' hb'
              go_wp2
              go_roundg (gk - 1)
              case measure => omega
              case rel => exact ⟨P ++ C, T', b, b', by omega, rfl, by go_num, HL5, HB5, HB6, HSt5, HO5, HR5⟩
            · have k3 : ¬ (b : Int) ≤ n := by omega
              by_cases hmn : a + k < n
              · obtain ⟨c1, c2, hr1, l1, s1, b1⟩ := HB2.out.one (by have := HL2.out; omega)
                have hTl := congrArg List.length hr1
                rw [List.length_append] at hTl
                have s2 := b1.short (by have := HL2.out; have := HKK.out; omega)
                subst hr1
                have hC := HSym.out n P c1 c2 [] wr a (a + k) n (by have := HL2.out; omega) HL2.out.1 (by have := HL2.out; omega) (by have := HL2.out; omega) (by omega) (by have := HL2.out; omega) (by have := HL2.out; simp only [List.length_append, List.length_nil] at this ⊢; omega) s1 s2 (by rw [List.append_nil]; exact HO2.out)
                have HC := Lib.hid hC
                have k4 : (a : Int) + k < n := by omega
                have HTl := Lib.hid (show (c1 ++ c2).length ≤ kk by have := HL2.out; rw [List.length_append]; omega)
                clear hC l1 s1 s2 b1 HO2 hT HB2 hTl
                go_wp2_with fail
                refine HC.out.mono ?_
                rintro e w5 ⟨rfl, d5, ⟨C, rfl, sc, tc⟩, ho, hr⟩
                have HO5 := Lib.hid (show NRow NodeD.cells B g cap (P ++ C) w5 by rw [List.append_nil] at ho; exact ho)
                have HR5 := Lib.hid (HR2.out.trans hr)
                have HB5 := Lib.hid (HBF.out.blk (.last C (by rw [tc.1]; exact HTl.out) sc))
                have HSt5 := Lib.hid (show Stab leD d (P ++ C) from Stab.trans HSt2.out ((Stab.refl P).app tc))
                have HL5 := Lib.hid (show n = (P ++ C).length by have := HL2.out; rw [List.length_append, tc.1]; exact this.2.2)
                clear ho hr HC HR2 HBF HSt2 HL2 HTl sc tc
                go_wp2
                go_roundg (n - kk)
                case measure => omega
                case rel => exact ⟨kk, P ++ C, Nat.le_refl _, by go_num, by have := HKK.out; omega, by omega, HL5, HB5, HSt5, HO5, HR5⟩
              · have k4 : ¬ (a : Int) + k < n := by omega
                have HB5 := Lib.hid (HBF.out.blk (.last T (by have := HL2.out; have := HKK.out; omega) (HB2.out.short (by have := HL2.out; omega))))
                have HL5 := Lib.hid (show n = (P ++ T).length by have := HL2.out; rw [List.length_append]; exact this.2.2)
                clear HBF HB2 HL2
                go_wp2
                go_roundg (n - kk)
                case measure => omega
                case rel => exact ⟨kk, P ++ T, Nat.le_refl _, by go_num, by have := HKK.out; omega, by omega, HL5, HB5, HSt2, HO2, HR2⟩
        · have k2 : ¬ (k : Int) < n := by omega
          have HF := Lib.hid (show Srt leD D ∧ Stab leD d D from ⟨HB.out.short (by rw [← HL.out]; omega), HSt.out⟩)
          clear HB HSt HL
          go_wp2
          go_end0
          rw [HEE.out]
          exact ⟨rfl, _, HF.out, HO.out, HR.out⟩
set_option maxHeartbeats 8000000 in
set_option maxRecDepth 100000 in
set_option linter.unusedSimpArgs false in
theorem sortStable_any (B g cap : Nat) (d : List NodeD) (w : World) (n : Nat) (hn : n = d.length) (h : NRow NodeD.cells B g cap d w) (hs : n ≤ 1000000000000) :
    Calls Tryz.prog 22 #[.slice (some ⟨g, 0, none⟩) n cap, .func (.func 23) #[] #[]] w (SoP NodeD.cells B g cap (fun d' => Srt leD d' ∧ Stab leD d d') w) := by
  have HC := Lib.hid (stable_any B g cap d w n hn h hs)
  obtain ⟨E, hEE⟩ : ∃ E, E = SoP NodeD.cells B g cap (fun d' => Srt leD d' ∧ Stab leD d d') w := ⟨_, rfl⟩
  rw [← hEE]
  have HEE := Lib.hid hEE
  clear h hEE hn
  go_enter Tryz.func22, Tryz.ntmps22
  go_wp2_with fail
  refine HC.out.mono ?_
  rintro e w5 ⟨rfl, d5, hd, ho, hr⟩
  have HX := Lib.hid (⟨d5, hd, ho, hr⟩ : ∃ d', (Srt leD d' ∧ Stab leD d d') ∧ NRow NodeD.cells B g cap d' w5 ∧ RGr (some g) (some g) w w5)
  clear hd ho hr HC
  go_wp2
  go_end0
  rw [HEE.out]
  exact ⟨rfl, HX.out⟩
end Go.Proofs.YtjkiehmjffgnlaaGreatDoor
namespace Go.Proofs.YtjkiehmjffgnlaaGreatDoor
set_option linter.unusedVariables false
set_option linter.unusedSimpArgs false
open Go.RowKit

set_option maxHeartbeats 8000000 in
set_option maxRecDepth 100000 in
set_option linter.unusedSimpArgs false in
theorem delete_nil (k : KeyT) (pb : Nat) (w : World) (hp : w.heap[pb]? = some (.cells #[.string ⟨k.1.toArray⟩, .string ⟨k.2.toArray⟩] 52 (0, 0))) :
    Calls Tryz.prog 19 #[.slice none 0 0, .func (.func 20) #[] #[.pointer (some ⟨pb, 0, none⟩)]] w (RetW (.slice none 0 0) w) := by
  obtain ⟨E, hEE⟩ : ∃ E, E = RetW (.slice none 0 0) w := ⟨_, rfl⟩
  rw [← hEE]
  have HEE := Lib.hid hEE
  have HIx := Lib.hid (idx_patch [] none 0 0 w ⟨none, 0, rfl, Nat.le_refl _, Nat.zero_le _, fun j x hx => by cases hx⟩ k pb hp)
  clear hEE hp
  go_enter Tryz.func19, Tryz.ntmps19
  go_wp2_with fail
  refine HIx.out.mono ?_
  rintro e w1 ⟨rfl, q, os, he⟩
  rw [show idxFrom k [] 0 = -1 from rfl]
  have HX := Lib.hid (⟨q, os, he⟩ : ∃ q os, w1 = Sort.grow (w.drewN q) os)
  clear he HIx
  go_wp2
  rw [HEE.out]
  exact ⟨rfl, HX.out⟩
set_option maxHeartbeats 8000000 in
set_option maxRecDepth 100000 in
set_option linter.unusedSimpArgs false in
theorem insertion_nil (w : World) : Calls Tryz.prog 53 #[.slice none 0 0, .int .i64 0, .int .i64 0, .func (.func 23) #[] #[]] w (RetW (.tuple #[]) w) := by
  obtain ⟨E, hEE⟩ : ∃ E, E = RetW (.tuple #[]) w := ⟨_, rfl⟩
  rw [← hEE]
  have HEE := Lib.hid hEE
  clear hEE
  go_enter Tryz.func53, Tryz.ntmps53
  go_wp2_with fail
  go_loopg [8] 1 (fun gk v8 wr => v8 = .int .i64 1 ∧ wr = w)
  case atStart => exact ⟨rfl, rfl⟩
  case round =>
    obtain ⟨rfl, rfl⟩ := hrel
    go_wp2
    go_end0
    rw [HEE.out]
    exact ⟨rfl, 0, #[], (Sort.grow_empty wr).symm⟩
set_option maxHeartbeats 8000000 in
set_option maxRecDepth 100000 in
set_option linter.unusedSimpArgs false in
theorem stable_nil (w : World) : Calls Tryz.prog 42 #[.slice none 0 0, .int .i64 0, .func (.func 23) #[] #[]] w (RetW (.tuple #[]) w) := by
  obtain ⟨E, hEE⟩ : ∃ E, E = RetW (.tuple #[]) w := ⟨_, rfl⟩
  rw [← hEE]
  have HEE := Lib.hid hEE
  have HI := Lib.hid (insertion_nil w)
  clear hEE
  go_enter Tryz.func42, Tryz.ntmps42
  go_wp2_with fail
  go_loopg [7, 8] 1 (fun gk v7 v8 wr => v7 = .int .i64 0 ∧ v8 = .int .i64 20 ∧ wr = w)
  case atStart => exact ⟨rfl, rfl, rfl⟩
  case round =>
    obtain ⟨rfl, rfl, rfl⟩ := hrel
    go_wp2_with fail
    refine HI.out.mono ?_
    rintro e w5 ⟨rfl, q, os, he⟩
    have HX := Lib.hid (⟨q, os, he⟩ : ∃ q os, w5 = Sort.grow (wr.drewN q) os)
    clear he HI
    go_wp2
    go_loopg [6] 1 (fun gk v6 wq => v6 = .int .i64 20 ∧ wq = w5)
    case atStart => exact ⟨rfl, rfl⟩
    case round =>
      obtain ⟨rfl, rfl⟩ := hrel
      go_wp2
      go_end0
      rw [HEE.out]
      exact ⟨rfl, HX.out⟩
set_option maxHeartbeats 8000000 in
set_option maxRecDepth 100000 in
set_option linter.unusedSimpArgs false in
theorem sort_nil (w : World) : Calls Tryz.prog 22 #[.slice none 0 0, .func (.func 23) #[] #[]] w (RetW (.tuple #[]) w) := by
  obtain ⟨E, hEE⟩ : ∃ E, E = RetW (.tuple #[]) w := ⟨_, rfl⟩
  rw [← hEE]
  have HEE := Lib.hid hEE
  have HI := Lib.hid (stable_nil w)
  clear hEE
  go_enter Tryz.func22, Tryz.ntmps22
  go_wp2_with fail
  refine HI.out.mono ?_
  rintro e w5 ⟨rfl, q, os, he⟩
  have HX := Lib.hid (⟨q, os, he⟩ : ∃ q os, w5 = Sort.grow (w.drewN q) os)
  clear he HI
  go_wp2
  go_end0
  rw [HEE.out]
  exact ⟨rfl, HX.out⟩
end Go.Proofs.YtjkiehmjffgnlaaGreatDoor
namespace Go.Proofs.YtjkiehmjffgnlaaGreatDoor
set_option linter.unusedVariables false
set_option linter.unusedSimpArgs false
open Go.RowKit

theorem KRow.form {B : Nat} {v : Value} {d : List NodeD} {w : World} (h : KRow B v d w) : (v = .slice none 0 0 ∧ d = []) ∨ ∃ g cap, v = .slice (some ⟨g, 0, none⟩) d.length cap ∧ NRow NodeD.cells B g cap d w := by
  have h1 := h
  unfold KRow at h1
  rcases h1.1.2 with ⟨hv, h0⟩ | ⟨g, cap, cur, hv, hb, hg, hn, hm, hs, ht⟩
  · rw [List.length_map] at h0
    exact .inl ⟨hv, List.eq_nil_of_length_eq_zero h0⟩
  · rw [List.length_map] at hv
    refine .inr ⟨g, cap, hv, ?_⟩
    unfold NRow
    rw [← hv]
    exact h
theorem KRow.nil (B : Nat) (w : World) : KRow B (.slice none 0 0) [] w := OwnT.nil _ _ _ _
theorem NRow.krow {B g cap : Nat} {d : List NodeD} {w : World} (h : NRow NodeD.cells B g cap d w) : KRow B (.slice (some ⟨g, 0, none⟩) d.length cap) d w := h
theorem KRow.below {B : Nat} {v : Value} {d : List NodeD} {w w' : World} (h : KRow B v d w) (hb : Below w.heap.size w w') : KRow B v d w' := OwnT.below h hb
def DelK (B : Nat) (v : Value) (d' : List NodeD) (w : World) (e : Ending) (w' : World) : Prop := ∃ v', e = .returned v' ∧ KRow B v' d' w' ∧ RGr v.ownBlock v.ownBlock w w' ∧ v'.ownBlock = v.ownBlock
def SortK (B : Nat) (v : Value) (D : List NodeD → Prop) (w : World) (e : Ending) (w' : World) : Prop := e = .returned (.tuple #[]) ∧ ∃ d', D d' ∧ KRow B v d' w' ∧ RGr v.ownBlock v.ownBlock w w'
theorem deleteK_any (B : Nat) (v : Value) (d : List NodeD) (k : KeyT) (pb : Nat) (w : World) (h : KRow B v d w) (hh : HangD w d) (hp : w.heap[pb]? = some (.cells #[.string ⟨k.1.toArray⟩, .string ⟨k.2.toArray⟩] 52 (0, 0))) (hpg : some pb ≠ v.ownBlock) (hs : d.length ≤ 1000000000000) :
    Calls Tryz.prog 19 #[v, .func (.func 20) #[] #[.pointer (some ⟨pb, 0, none⟩)]] w (DelK B v (keepD k d) w) := by
  rcases h.form with ⟨rfl, rfl⟩ | ⟨g, cap, rfl, hr⟩
  · refine (delete_nil k pb w hp).mono ?_
    rintro e w' ⟨rfl, q, os, rfl⟩
    exact ⟨_, rfl, KRow.nil _ _, RGr.under (below_grown w q os), rfl⟩
  · refine (deleteN_any B g cap d k pb d.length w rfl hr hh hp (fun e => hpg (by rw [e]; rfl)) hs).mono ?_
    rintro e w' ⟨rfl, h1, h2⟩
    exact ⟨_, rfl, h1.krow, h2, rfl⟩
theorem sortK_any (B : Nat) (v : Value) (d : List NodeD) (w : World) (h : KRow B v d w) (hs : d.length ≤ 1000000000000) :
    Calls Tryz.prog 22 #[v, .func (.func 23) #[] #[]] w (SortK B v (fun d' => Srt leD d' ∧ Stab leD d d') w) := by
  rcases h.form with ⟨rfl, rfl⟩ | ⟨g, cap, rfl, hr⟩
  · refine (sort_nil w).mono ?_
    rintro e w' ⟨rfl, q, os, rfl⟩
    exact ⟨rfl, [], ⟨List.Pairwise.nil, Stab.refl _⟩, KRow.nil _ _, RGr.under (below_grown w q os)⟩
  · refine (sortStable_any B g cap d w d.length rfl hr hs).mono ?_
    rintro e w' ⟨rfl, d', ⟨s1, s2⟩, h1, h2⟩
    refine ⟨rfl, d', ⟨s1, s2⟩, ?_, h2⟩
    have hl : d'.length = d.length := s2.1
    rw [← hl]
    exact h1.krow
end Go.Proofs.YtjkiehmjffgnlaaGreatDoor

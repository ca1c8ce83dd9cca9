/-
  Parts of the walks and plain laws of layer 10, joined: MulN. Conditions: as each theorem states them.
-/
import Derived.Test.YtcamdnfhnianbaaGreatDoorXmlZ45
/-! MulN -/
namespace Go.Proofs.YtcamdnfhnianbaaGreatDoor
set_option linter.unusedVariables false
set_option linter.unusedSimpArgs false
open Go.RowKit

/-- a row of the call's own; what its elements hang on lies in blocks of Pb's. -/
def RowP {α : Type} (e : TypeId) (n B : Nat) (R : (Nat → Prop) → World → List Value → α → Prop) (Pb : Nat → Prop) (w : World) (v : Value) (xs : List α) : Prop :=
  ∃ rows : List (List Value), OwnT e n B rows v w ∧ rows.length = xs.length ∧ ∀ (j : Nat) (r : List Value) (x : α), rows[j]? = some r → xs[j]? = some x → R Pb w r x
section
variable {α : Type} {e : TypeId} {n B : Nat} {R : (Nat → Prop) → World → List Value → α → Prop} {Pb : Nat → Prop} {w w' : World} {v : Value} {xs ys : List α}
theorem RowP.tab (hM : Mov R) (h : RowP e n B R Pb w v xs) : Tab n (R anyB) w v xs := by
  obtain ⟨rows, h1, h2, h3⟩ := h
  exact h1.tab h2 fun j x r hx hr => hM _ _ _ _ _ _ (h3 j r x hr hx) (Moves.same w fun _ _ _ => trivial)
theorem RowP.form (h : RowP e n B R Pb w v xs) : ∃ A cap, v = .slice A xs.length cap := by
  obtain ⟨rows, h1, h2, -⟩ := h
  rcases h1.1.2 with ⟨hv, h0⟩ | ⟨g, cap, cur, hv, hb, hg, hn, hm, hs, ht⟩
  · exact ⟨none, 0, by rw [hv, ← h2, h0]⟩
  · exact ⟨_, cap, by rw [hv, h2]⟩
theorem RowG.rowP {Q : Nat → Prop} (hM : Mov R) (h : RowG e n R Q B w v xs) : RowP e n B R (fun k => some k ≠ v.ownBlock) w v xs := by
  obtain ⟨rows, h1, h2, h3⟩ := h
  exact ⟨rows, h1, h2, fun j r x hr hx => hM _ _ _ _ _ _ (h3 j r x hr hx) (Moves.same w fun k hk _ => hk.2)⟩
theorem run_appMany {P : Program} {t : TypeId} {z : Value} {bytes : Nat} (E : ElemN P t e n z bytes) (hM : Mov R) (ty : TypeId) (h : RowP e n B R Pb w v xs) (hP : ∀ k, Pb k → some k ≠ v.ownBlock) (hB : B ≤ w.heap.size) {A : Option Addr} {cap : Nat} (hy : Tab n (R Pb) w (.slice A ys.length cap) ys)
    (h1 : ∀ cs x, R Pb w cs x → ∀ u ∈ cs, u.oneCell' = true) (hlen : (xs.length + ys.length) * bytes ≤ 140737488355328) :
    ∃ v' w', (Builtin.append_ #[t, t] ty #[v, .slice A ys.length cap]).run P w = .ok v' w' ∧ RowP e n B R Pb w' v' (xs ++ ys) ∧ Below B w w' ∧ w.grownBy w' v.ownBlock ∧ (v'.ownBlock = v.ownBlock ∨ v'.ownBlock = some w.heap.size) := by
  obtain ⟨rows, r1, r2, r3⟩ := h
  obtain ⟨A', cap', news, hv, n1, n2, n3, n4, n5, n6⟩ := hy.flat
  injection hv with hv1 hv2 hv3
  subst hv1 hv3
  obtain ⟨v', w', hrun, g1, g2, g3, g4⟩ := run_appT E ty r1 A ys.length cap (news := news) n3 n1 n4 (fun hne => by
      obtain ⟨b, o, hA, -, hc⟩ := n6 (fun e => hne (List.eq_nil_of_length_eq_zero (by rw [n3, e]; rfl)))
      exact ⟨b, o, hA, hc⟩) (fun r hr u hu => by
      obtain ⟨j, hj, rfl⟩ := List.mem_iff_getElem.1 hr
      exact h1 _ _ (n5 j _ _ (List.getElem?_eq_getElem (by rw [← n3]; exact hj)) (List.getElem?_eq_getElem hj)) u hu) (by rw [r2]; exact hlen) hB
  have hm : Moves Pb Pb w w' := ⟨g3.size, fun k hk hlt => ⟨hk, g3.block k hlt (hP k hk)⟩⟩
  refine ⟨v', w', hrun, ⟨rows ++ news, g1, by simp [r2, n3], fun j r y hr hy => ?_⟩, g2, g3, g4⟩
  rcases Nat.lt_or_ge j rows.length with hj | hj
  · rw [List.getElem?_append_left hj] at hr
    rw [List.getElem?_append_left (by rw [← r2]; exact hj)] at hy
    exact hM _ _ _ _ _ _ (r3 j r y hr hy) hm
  · rw [List.getElem?_append_right hj] at hr
    rw [List.getElem?_append_right (by rw [← r2]; exact hj), ← r2] at hy
    exact hM _ _ _ _ _ _ (n5 _ _ _ hy hr) hm
end
/-- append by its run. -/
theorem wpList_app_run {P : Program} {t : TypeId} {ops : Array Oper} {rest : List Oper} {o : Oper} {a : Act} {Q : Exit → Act → World → Prop} {w w' : World} {u v v' : Value} (hw : Region.wanted o (yielded ops a.tmps) = true) (s x : Operand)
    (ho : o.op = .call { callee := .builtin .append, args := #[s, x], argTypes := #[t, t] }) (hs : a.eval s = v) (hx : a.eval x = u) (hrun : (Builtin.append_ #[t, t] o.type #[v, u]).run P w = .ok v' w')
    (h : wpList P ops Q rest (a.put o.dst v') w') : wpList P ops Q (o :: rest) a w := by
  refine wpList_step fun K hK => ?_
  rw [if_pos hw]
  unfold Oper.wp execOp
  simp only [ho, resolve, invoke, builtin, Sem.run_bind, Sem.run_pure, Result.andThen_ok, List.map_toArray, List.map_cons, List.map_nil, hs, hx, hrun]
  exact hK _ _ h
theorem told_one {Pb : Nat → Prop} {w : World} : ∀ cs x, ToldR Pb w cs x → ∀ u ∈ cs, u.oneCell' = true := by
  rintro cs x ⟨pv, rfl, hp⟩ u hu
  obtain ⟨A, c, rfl⟩ := tab_shape hp.1
  simp only [List.mem_cons, List.not_mem_nil, or_false] at hu
  rcases hu with rfl | rfl <;> rfl
theorem ToldsP.dress {w : World} {v : Value} {l : List ToldT} (h : ToldsP anyB w v l) {w' : World} (hb : Below w.heap.size w w') : ToldsP (fun k => k < w.heap.size) w' v l := h.move ⟨hb.size, fun k _ hlt => ⟨hlt, hb.block k hlt⟩⟩
/-- both lists, one behind the other, in a row of the call's own. -/
theorem joined (a b : List ToldT) (A B : Option Addr) (c d : Nat) (w w4 : World) (ha : ToldsP anyB w (.slice A a.length c) a) (hb : ToldsP anyB w (.slice B b.length d) b) (hw : Below w.heap.size w w4) (hl : a.length + b.length ≤ 2000000) :
    ∃ v1 w6 A2 c2 w7, (Builtin.append_ #[22, 22] 22 #[.slice (some ⟨w4.heap.size, 0, none⟩) 0 0, .slice A a.length c]).run Tryz.prog (w4.alloc (.cells #[] 42 (0, 0))) = .ok v1 w6 ∧
      (Builtin.append_ #[22, 22] 22 #[v1, .slice B b.length d]).run Tryz.prog w6 = .ok (.slice A2 (a ++ b).length c2) w7 ∧ ToldsP anyB w7 (.slice A2 (a ++ b).length c2) (a ++ b) ∧ Below w.heap.size w w7 := by
  have hb5 : Below w.heap.size w (w4.alloc (.cells #[] 42 (0, 0))) := hw.alloc hw.size _
  have h0 : RowP 42 2 w4.heap.size ToldR (fun k => k < w.heap.size) (w4.alloc (.cells #[] 42 (0, 0))) (.slice (some ⟨w4.heap.size, 0, none⟩) 0 0) ([] : List ToldT) := ⟨[], OwnT.made _ w4 #[] 0 (Nat.le_refl _) (Nat.zero_le _) rfl, rfl, fun j r x h => by simp at h⟩
  obtain ⟨v1, w6, run1, r1, b1, g1, o1⟩ := run_appMany elemTd mov_told 22 h0 (fun k hk e => by have := Option.some.inj (show some k = some w4.heap.size from e); have := hw.size; omega) (by rw [World.size_alloc]; omega) (ha.dress hb5).1 told_one (by show (0 + a.length) * 40 ≤ _; omega)
  rw [List.nil_append] at r1
  have hb6 : Below w.heap.size w w6 := hb5.trans (b1.mono hw.size)
  have hs6 := b1.size
  have hs5 : (w4.alloc (.cells #[] 42 (0, 0))).heap.size = w4.heap.size + 1 := World.size_alloc ..
  obtain ⟨v2, w7, run2, r2, b2, g2, o2⟩ := run_appMany elemTd mov_told 22 r1 (fun k hk e => by
    have h4 := hw.size
    rcases o1 with o1 | o1
    · rw [o1] at e; have := Option.some.inj (show some k = some w4.heap.size from e); omega
    · rw [o1] at e; have := Option.some.inj e; omega) (by omega) (hb.dress hb6).1 told_one (by omega)
  obtain ⟨A2, c2, rfl⟩ := r2.form
  exact ⟨v1, w6, A2, c2, w7, run1, run2, TabP.any (r2.tab mov_told), hb6.trans (b2.mono hw.size)⟩
set_option maxHeartbeats 16000000 in
set_option maxRecDepth 100000 in
set_option linter.unusedSimpArgs false in
theorem law_join (a b : List ToldT) (A B : Option Addr) (c d : Nat) (w : World) (ha : ToldsP anyB w (.slice A a.length c) a) (hb : ToldsP anyB w (.slice B b.length d) b) (hsa : SmallM a) (hsb : SmallM b) (hsl : SmallM (a ++ b)) (hE : MEnv w) :
    Calls Tryz.prog 6 #[.slice A a.length c, .slice B b.length d] w (Ret (.bool true) w) := by
  have HE := Lib.hid hE
  have HFx := Lib.hid (fun w' (hb : Below w.heap.size w w') => mfixed_any w' (hE.below hb))
  have HGa := Lib.hid (fun w' (hw : Below w.heap.size w w') => great_any a A c w' (ha.under hw))
  have HGb := Lib.hid (fun w' (hw : Below w.heap.size w w') => great_any b B d w' (hb.under hw))
  have HBa := Lib.hid (fun w' (hw : Below w.heap.size w w') => mbuild_any a A c w' (ha.under hw) hsa (hE.below hw))
  have HBb := Lib.hid (fun w' (hw : Below w.heap.size w w') => mbuild_any b B d w' (hb.under hw) hsb (hE.below hw))
  have hal := hsa.len
  have hbl := hsb.len
  have HJ := Lib.hid (fun w4 (hw : Below w.heap.size w w4) => joined a b A B c d w w4 ha hb hw (by omega))
  have HMore := Lib.hid (fun (s : List UInt8) (h : buildM (a ++ b) = .ok s) => build_more h)
  obtain ⟨L, hL⟩ : ∃ L, L = a ++ b := ⟨_, rfl⟩
  have HLe := Lib.hid hL
  rw [← hL] at HJ HMore hsl
  have HSl := Lib.hid hsl
  have hLl := hsl.len
  obtain ⟨X, hX⟩ : ∃ X, X = buildM a := ⟨_, rfl⟩
  obtain ⟨Y, hY⟩ : ∃ X, X = buildM b := ⟨_, rfl⟩
  obtain ⟨Z, hZ⟩ : ∃ X, X = buildM L := ⟨_, rfl⟩
  rw [← hX] at HBa HMore
  rw [← hY] at HBb HMore
  rw [← hZ] at HMore
  have HX := Lib.hid hX
  have HY := Lib.hid hY
  have HZ := Lib.hid hZ
  obtain ⟨E, hEE⟩ : ∃ E, E = Ret (.bool true) w := ⟨_, rfl⟩
  rw [← hEE]
  have HEE := Lib.hid hEE
  clear hE ha hb hX hY hZ hEE hL hsa hsb hsl
  go_enter Tryz.func6, Tryz.ntmps6
  go_wp2_with fail
  refine (HFx.out _ (Below.refl _ _)).mono ?_
  rintro e w1 ⟨rfl, hb1⟩
  have HB1 := Lib.hid hb1
  clear hb1
  go_wp2_with fail
  refine (HGa.out _ HB1.out).mono ?_
  rintro e w2 ⟨hb2, g1, rfl⟩
  have HB2 := Lib.hid (HB1.out.trans (hb2.mono HB1.out.size))
  clear hb2 HGa HB1
  cases g1
  case true =>
    go_wp2_with fail
    refine (HFx.out _ HB2.out).mono ?_
    rintro e w3 ⟨rfl, hb3⟩
    have HB3 := Lib.hid (HB2.out.trans (hb3.mono HB2.out.size))
    clear hb3 HFx HB2
    go_wp2
    rw [HEE.out]
    exact ⟨rfl, HB3.out⟩
  go_wp2_with fail
  refine (HGb.out _ HB2.out).mono ?_
  rintro e w3 ⟨hb3, g2, rfl⟩
  have HB3 := Lib.hid (HB2.out.trans (hb3.mono HB2.out.size))
  clear hb3 HGb HB2
  cases g2
  case true =>
    go_wp2_with fail
    refine (HFx.out _ HB3.out).mono ?_
    rintro e w4 ⟨rfl, hb4⟩
    have HB4 := Lib.hid (HB3.out.trans (hb4.mono HB3.out.size))
    clear hb4 HFx HB3
    go_wp2
    rw [HEE.out]
    exact ⟨rfl, HB4.out⟩
  clear HFx
  go_wp2_with fail
  refine (HBa.out _ HB3.out).mono ?_
  rintro e w4 ⟨hb4, rfl⟩
  have HB4 := Lib.hid (HB3.out.trans (hb4.mono HB3.out.size))
  clear hb4 HBa HB3
  obtain ⟨s1, hs1⟩ : ∃ s, s = okOr [] X := ⟨_, rfl⟩
  obtain ⟨e1, he1⟩ : ∃ s, s = errX X := ⟨_, rfl⟩
  rw [← hs1, ← he1]
  have HS1 := Lib.hid hs1
  have HE1 := Lib.hid he1
  clear hs1 he1
  go_wp2_with fail
  refine (HBb.out _ HB4.out).mono ?_
  rintro e w5 ⟨hb5, rfl⟩
  have HB5 := Lib.hid (HB4.out.trans (hb5.mono HB4.out.size))
  clear hb5 HBb HB4
  obtain ⟨s2, hs2⟩ : ∃ s, s = okOr [] Y := ⟨_, rfl⟩
  obtain ⟨e2, he2⟩ : ∃ s, s = errX Y := ⟨_, rfl⟩
  rw [← hs2, ← he2]
  have HS2 := Lib.hid hs2
  have HE2 := Lib.hid he2
  obtain ⟨v1, w6, A2, c2, w7, run1, run2, hT7, hb7⟩ := HJ.out w5 HB5.out
  have HB7 := Lib.hid hb7
  have HBl := Lib.hid (mbuild_any L A2 c2 w7 hT7 HSl.out (HE.out.below hb7))
  rw [← HZ.out] at HBl
  have HR1 := Lib.hid run1
  have HR2 := Lib.hid run2
  clear hs2 he2 HJ hT7 hb7 run1 run2
  go_wp2_with (first | (at_builtin; refine wpList_app_run (by rfl) _ _ rfl rfl rfl HR1.out ?_) | (at_builtin; refine wpList_app_run (by rfl) _ _ rfl rfl rfl HR2.out ?_))
  refine HBl.out.mono ?_
  rintro e w8 ⟨hb8, rfl⟩
  have HB8 := Lib.hid (HB7.out.trans (hb8.mono HB7.out.size))
  clear hb8 HBl HR1 HR2 HB7 HSl
  rcases Z with k | s3
  · have hk := buildM_err HZ.out.symm
    rw [show errX (Except.error k : Except Int (List UInt8)) = k from rfl, show okOr [] (Except.error k : Except Int (List UInt8)) = [] from rfl]
    have h1 : e1 = 0 ∨ ¬ e1 = 0 := Classical.em _
    have h2 : e2 = 0 ∨ ¬ e2 = 0 := Classical.em _
    clear HZ HX HY HS1 HS2 HE1 HE2 HMore
    rcases hk with rfl | rfl <;> rcases h1 with rfl | h1 <;> rcases h2 with rfl | h2
    all_goals
      go_wp2
      rw [HEE.out]
      exact ⟨rfl, HB8.out⟩
  rw [show errX (Except.ok s3 : Except Int (List UInt8)) = 0 from rfl, show okOr [] (Except.ok s3 : Except Int (List UInt8)) = s3 from rfl]
  obtain ⟨⟨t1, ht1⟩, ⟨t2, ht2⟩⟩ := HMore.out s3 rfl
  obtain rfl : e1 = 0 := by rw [HE1.out, ht1]; rfl
  obtain rfl : e2 = 0 := by rw [HE2.out, ht2]; rfl
  obtain rfl : s1 = t1 := by rw [HS1.out, ht1]; rfl
  obtain rfl : s2 = t2 := by rw [HS2.out, ht2]; rfl
  have hX := HX.out.symm.trans ht1
  have hY := HY.out.symm.trans ht2
  have hZ := HZ.out.symm
  have hl1 := buildM_len hX
  have hl2 := buildM_len hY
  have hl3 := buildM_len hZ
  have HRa := Lib.hid (fun w' (hb : Below w.heap.size w w') => (by have h := mread_any s1 w' (by omega) (HE.out.below hb); rw [build_read hX] at h; exact h : Calls Tryz.prog 11 #[.string ⟨s1.toArray⟩] w' (MReadP (.ok a) w')))
  have HRb := Lib.hid (fun w' (hb : Below w.heap.size w w') => (by have h := mread_any s2 w' (by omega) (HE.out.below hb); rw [build_read hY] at h; exact h : Calls Tryz.prog 11 #[.string ⟨s2.toArray⟩] w' (MReadP (.ok b) w')))
  have HRl := Lib.hid (fun w' (hb : Below w.heap.size w w') => (by have h := mread_any s3 w' (by omega) (HE.out.below hb); rw [build_read hZ] at h; exact h : Calls Tryz.prog 11 #[.string ⟨s3.toArray⟩] w' (MReadP (.ok L) w')))
  clear hX hY hZ hl1 hl2 hl3 ht1 ht2 HZ HX HY HS1 HS2 HE1 HE2 HMore
  go_wp2_with fail
  refine (HRa.out _ HB8.out).mono ?_
  rintro e w9 ⟨hb9, x, rfl, hx⟩
  have HB9 := Lib.hid (HB8.out.trans (hb9.mono HB8.out.size))
  have HX9 := Lib.hid hx
  have h89 := hb9.size
  clear hb9 HRa hx
  go_wp2_with fail
  refine (HRb.out _ HB9.out).mono ?_
  rintro e w10 ⟨hb10, y, rfl, hy⟩
  have HB10 := Lib.hid (HB9.out.trans (hb10.mono HB9.out.size))
  have HX10 := Lib.hid (HX9.out.under mov_told hb10)
  have HY10 := Lib.hid hy
  have h910 := hb10.size
  clear hb10 HRb hy
  go_wp2_with fail
  refine (HRl.out _ HB10.out).mono ?_
  rintro e w11 ⟨hb11, z, rfl, hz⟩
  have HB11 := Lib.hid (HB10.out.trans (hb11.mono HB10.out.size))
  have HX11 := Lib.hid (HX10.out.under mov_told hb11)
  have HY11 := Lib.hid (HY10.out.under mov_told hb11)
  have HZ11 := Lib.hid hz
  have h1011 := hb11.size
  have HXl := Lib.hid HX9.out.lt
  clear hb11 HRl hz HX10 HY10
  obtain ⟨yA, yc, hyv, -, -⟩ := HY11.out.form
  obtain ⟨zA, zc, hzv, -, -⟩ := HZ11.out.form
  subst hyv hzv
  have hyT : Tab 2 (ToldR fun k => some k ≠ x.ownBlock) w11 (.slice yA b.length yc) b := HY11.out.tabQ mov_told fun k hk e => by have := (HXl.out k e.symm).2; omega
  have hzT : ToldsP (fun k => some k ≠ x.ownBlock) w11 (.slice zA L.length zc) L := ⟨HZ11.out.tabQ mov_told fun k hk e => by have := (HXl.out k e.symm).2; omega, fun _ k hk e => by have := (HZ11.out.lt k hk).1; have := (HXl.out k e.symm).2; omega⟩
  obtain ⟨v, w12, run3, r3, b3, g3, -⟩ := run_appMany elemTd mov_told 22 (RowG.rowP mov_told HX11.out) (fun k hk => hk) (by omega) hyT told_one (by omega)
  obtain ⟨vA, vc, hvv⟩ := r3.form
  subst hvv
  have HL2 := HLe.out
  have hb12 : Below w.heap.size w w12 := HB11.out.trans (b3.mono HB8.out.size)
  have hz12 := hzT.move (Q := anyB) ⟨g3.size, fun k hk hlt => ⟨trivial, g3.block k hlt hk⟩⟩
  have hr12 : ToldsP anyB w12 (.slice vA L.length vc) L := by rw [HL2]; exact TabP.any (r3.tab mov_told)
  have HSa := Lib.hid (msame_any L zA vA zc vc w12 hz12 hr12)
  rw [show (a ++ b).length = L.length by rw [HL2]] at run3
  have HR3 := Lib.hid run3
  have HB12 := Lib.hid hb12
  clear run3 r3 b3 g3 hb12 hz12 hr12 HL2 hyT hzT HX11 HY11 HZ11 HX9 HXl h89 h910 h1011
  go_wp2_with (first | (at_builtin; refine wpList_app_run (by rfl) _ _ rfl rfl rfl HR3.out ?_) | (go_at_call 12; refine HSa.out.mono ?_; rintro e w13 ⟨rfl, hb13⟩))
  rw [HEE.out]
  exact ⟨rfl, HB12.out.trans (hb13.mono HB12.out.size)⟩
theorem law_join17v (a b : List ToldT) (v u : Value) (w : World) (ha : ToldsP anyB w v a) (hb : ToldsP anyB w u b) (hsa : SmallM a) (hsb : SmallM b) (hsl : SmallM (a ++ b)) (hE : MEnv w) : Calls Tryz.prog 6 #[v, u] w (Ret (.bool true) w) := by
  obtain ⟨A, c, rfl⟩ := tab_shape ha.1
  obtain ⟨B, d, rfl⟩ := tab_shape hb.1
  exact law_join a b A B c d w ha hb hsa hsb hsl hE
end Go.Proofs.YtcamdnfhnianbaaGreatDoor

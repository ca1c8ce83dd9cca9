import Derived.Test.YtjkiehmjffgnlaaGreatDoorXmlZ23
import Derived.Test.YtjkiehmjffgnlaaGreatDoorXmlZ21
namespace Go.Proofs.YtjkiehmjffgnlaaGreatDoor
set_option linter.unusedVariables false
set_option linter.unusedSimpArgs false
open Go.RowKit

/-- what holds while Parse reads: its two results, the parser. -/
structure InP (w : World) (cs : Array Value) (p : Nat) (s : List UInt8) (wx : World) : Prop where
  below : Below w.heap.size w wx
  q : wx.heap[w.heap.size]? = some (.cells cs 46 (0, 0))
  u : wx.heap[w.heap.size + 1]? = some (.cells #[.int .i64 0] 93 (0, 0))
  px : PX wx p s
  lt : w.heap.size + 1 < p
  sz : cs.size = 5
section
variable {w wx wy : World} {cs : Array Value} {p : Nat} {s r : List UInt8}
theorem InP.two (h : InP w cs p s wx) (hg : wx.grownBy wy (some p)) : Below w.heap.size w wy ∧ wy.heap[w.heap.size]? = some (.cells cs 46 (0, 0)) ∧ wy.heap[w.heap.size + 1]? = some (.cells #[.int .i64 0] 93 (0, 0)) := by
  have hl := h.lt
  have hz := h.below.size
  exact ⟨h.below.trans ⟨hg.os, hg.tape, hg.output, hg.size, fun k hk => hg.block k (by omega) (by intro e; injection e with e; omega)⟩,
    (hg.block _ (xlt h.q) (by intro e; injection e with e; omega)).trans h.q, (hg.block _ (xlt h.u) (by intro e; injection e with e; omega)).trans h.u⟩
theorem InP.step (h : InP w cs p s wx) (hg : wx.grownBy wy (some p)) (hp : PX wy p r) : InP w cs p r wy := by
  obtain ⟨h1, h2, h3⟩ := h.two hg
  exact ⟨h1, h2, h3, hp, h.lt, h.sz⟩
theorem InP.stop (h : InP w cs p s wx) (hg : wx.grownBy wy (some p)) {x : Except Int NodeT} (hx : x = .error 30) (tmps : Array Value) (h2 : tmps.getD 2 undef = .pointer (some ⟨w.heap.size, 0, none⟩)) (h3 : tmps.getD 3 undef = .pointer (some ⟨w.heap.size + 1, 0, none⟩)) :
    Leaves Tryz.prog Tryz.f49 tmps (ParseP x w) (dfrX w.heap.size (w.heap.size + 1)) (.panicking brokenE) wy := by
  obtain ⟨k1, k2, k3⟩ := h.two hg
  exact parse_stop hx tmps h2 h3 k2 h.sz k3 (Nat.le_refl _) (by omega) k1
theorem InP.row (h : InP w cs p s wx) {cs' : Array Value} (hc : cs'.size = 5) : InP w cs' p s (wx.setRow w.heap.size cs') ∧ wx.grownBy (wx.setRow w.heap.size cs') (some w.heap.size) := by
  have hg := grown_row wx w.heap.size cs'
  have hl := h.lt
  have hz := h.below.size
  exact ⟨⟨h.below.trans ⟨hg.os, hg.tape, hg.output, hg.size, fun k hk => hg.block k (by omega) (by intro e; injection e with e; omega)⟩, setRow_heap wx w.heap.size cs _ _ _ h.q, (hg.block _ (xlt h.u) (by intro e; injection e with e; omega)).trans h.u, h.px.keep hg (by intro e; injection e with e; omega), h.lt, hc⟩, hg⟩
theorem InP.below' (h : InP w cs p s wx) (hb : Below wx.heap.size wx wy) : InP w cs p s wy := h.step (Below.toGrown hb _) (h.px.below hb)
theorem InP.env (h : InP w cs p s wx) (hE : XEnv w) : XE wx p := XE.new hE h.below (by have := h.lt; omega)
end
theorem inP_start (w : World) (w0 : World) (h0 : w0 = (w.alloc (.cells #[.string ⟨#[]⟩, .string ⟨#[]⟩, .string ⟨#[]⟩, .slice none 0 0, .slice none 0 0] 46 (0, 0))).alloc (.cells #[.int .i64 0] 93 (0, 0))) :
    Below w.heap.size w w0 ∧ w0.heap[w.heap.size]? = some (.cells zeroCs 46 (0, 0)) ∧ w0.heap[w.heap.size + 1]? = some (.cells #[.int .i64 0] 93 (0, 0)) ∧ w0.heap.size = w.heap.size + 2 := by
  subst h0
  have s1 : (w.alloc (.cells #[.string ⟨#[]⟩, .string ⟨#[]⟩, .string ⟨#[]⟩, .slice none 0 0, .slice none 0 0] 46 (0, 0))).heap.size = w.heap.size + 1 := World.size_alloc ..
  refine ⟨((Below.refl _ _).alloc (Nat.le_refl _) _).alloc (by rw [s1]; omega) _, ?_, ?_, ?_⟩
  · exact (heap_alloc_old _ _ (by rw [s1]; omega)).trans (heap_alloc_new w _)
  · have := heap_alloc_new (w.alloc (.cells #[.string ⟨#[]⟩, .string ⟨#[]⟩, .string ⟨#[]⟩, .slice none 0 0, .slice none 0 0] 46 (0, 0))) (.cells #[.int .i64 0] 93 (0, 0))
    rwa [s1] at this
  · exact (World.size_alloc ..).trans (by rw [s1])
theorem index_white (x : UInt8) : whC x = decide (0 ≤ Lib.indexByte [9, 10, 13, 32] x) := by
  have := u8_allX (fun c => whC c == decide (0 ≤ Lib.indexByte [9, 10, 13, 32] c)) (by decide +kernel) x
  simpa using this
def wDecl : List UInt8 := [60, 63, 120, 109, 108]
theorem declared_no {s : List UInt8} (h : wDecl.isPrefixOf s = false) : declared s = false := by
  unfold declared
  rw [show [60, 63, 120, 109, 108].isPrefixOf s = false from h]
  rfl
theorem drop_head {s : List UInt8} {k : Nat} {x : UInt8} {q : List UInt8} (h : s.drop k = x :: q) : k < s.length ∧ s.getD k 0 = x := by
  have hl : k < s.length := by
    have := congrArg List.length h
    rw [List.length_drop, List.length_cons] at this
    omega
  refine ⟨hl, ?_⟩
  have := congrArg (fun l => l[0]?) h
  simp only [List.getElem?_drop, Nat.add_zero, List.getElem?_cons_zero] at this
  rw [List.getD_eq_getElem?_getD, this]
  rfl
theorem declared_nil {s : List UInt8} (hd : s.drop 5 = []) : declared s = false := by
  unfold declared
  have : ¬ (5 < s.length) := by have := List.drop_eq_nil_iff.1 hd; omega
  rw [decide_eq_false this]
  simp
theorem declared_yes {s q : List UInt8} {x : UInt8} (h : wDecl.isPrefixOf s = true) (hd : s.drop 5 = x :: q) : declared s = whC x := by
  obtain ⟨h1, h2⟩ := drop_head hd
  unfold declared
  rw [show [60, 63, 120, 109, 108].isPrefixOf s = true from h, decide_eq_true h1, h2]
  rfl
theorem xindexB_any (x : UInt8) (w : World) : Calls Tryz.prog 60 #[.string ⟨#[9, 10, 13, 32]⟩, .int .u8 x.toNat] w (Same0 (.int .i64 (Lib.indexByte [9, 10, 13, 32] x)) w) := by
  refine (Tryz.strings_IndexByte ⟨#[9, 10, 13, 32]⟩ (x.toNat : Int) w).mono ?_
  rintro e w' ⟨rfl, rfl⟩
  refine ⟨?_, rfl⟩
  have : ((x.toNat : Int).toNat).toUInt8 = x := by simp
  rw [this]
set_option maxHeartbeats 16000000 in
set_option maxRecDepth 100000 in
set_option linter.unusedSimpArgs false in
theorem xparse_any (s : List UInt8) (w : World) (hs : s.length ≤ 9223372036854775807) (hE : XEnv w) : Calls Tryz.prog 49 #[.string ⟨s.toArray⟩] w (ParseP (parseX s) w) := by
  have hmf : ∀ (fn : Fn) (first cap : Array Value) (w : World), (Instr.makeFunc fn first cap).run Tryz.prog w = .ok (.func fn first cap) w := fun _ _ _ _ => rfl
  have HS := Lib.hid (inP_start w _ rfl)
  have HE := Lib.hid hE
  have HX := Lib.hid (parseX_eq s)
  generalize parseX s = ANS at *
  clear hE
  by_cases hlen : 65536 < s.length
  · have hX := HX.out
    rw [if_pos hlen] at hX
    have HA := Lib.hid hX
    have hli : (65536 : Int) < (s.length : Int) := by omega
    clear HX hX hlen
    obtain ⟨hb, hq, hu, hz⟩ := HS.out
    have hne : w.heap.size ≠ w.heap.size + 1 := by omega
    obtain ⟨lu, fu⟩ := one_cell (cs' := #[.string ⟨#[]⟩, .string ⟨#[]⟩, .string ⟨#[]⟩, .slice none 0 0, .slice none 0 0]) hu hne
    have HT := Lib.hid (two_cells (cs' := #[.string ⟨#[]⟩, .string ⟨#[]⟩, .string ⟨#[]⟩, .slice none 0 0, .slice none 0 0]) (y' := .int .i64 5) hq hu hne)
    have HQ := Lib.hid hq
    have HB := Lib.hid hb
    clear hb hq hu hz HS HE
    go_enter_defers Tryz.func49, Tryz.ntmps49
    go_wp2_with (refine wpList_store_row rfl 46 _ _ rfl w.heap.size _ rfl rfl 46 _ HQ.out (by kernel_rfl) rfl (by simp [Value.oneCell']) ?_)
    obtain ⟨t1, t2, t3, t4, t5, t6, t7⟩ := HT.out
    rw [HA.out]
    exact ⟨_, results_parse _ _ w.heap.size (w.heap.size + 1) _ _ rfl rfl rfl t1 t2, HB.out.trans ⟨t3, t4, t5, t6, fun k hk => t7 k (by omega) (by omega)⟩, rfl⟩
  have hli : ¬ ((65536 : Int) < (s.length : Int)) := by omega
  have hX := HX.out
  rw [if_neg hlen] at hX
  have HX2 := Lib.hid hX
  obtain ⟨hb, hq, hu, hz⟩ := HS.out
  have HL := Lib.hid (xletters_any s _ (by omega) (HE.out.below hb))
  have HB := Lib.hid hb
  have HQ := Lib.hid hq
  have HU := Lib.hid hu
  clear hX HX hb hq hu HS
  go_enter_defers Tryz.func49, Tryz.ntmps49
  go_wp2_with fail
  generalize (w.alloc (.cells #[.string ⟨#[]⟩, .string ⟨#[]⟩, .string ⟨#[]⟩, .slice none 0 0, .slice none 0 0] 46 (0, 0))).alloc (.cells #[.int .i64 0] 93 (0, 0)) = w0 at *
  refine HL.out.mono ?_
  rintro e w1 ⟨rfl, hb1⟩
  have HB1 := Lib.hid (HB.out.trans (hb1.mono HB.out.size))
  have HQ1 := Lib.hid ((hb1.block _ (xlt HQ.out)).trans HQ.out)
  have HU1 := Lib.hid ((hb1.block _ (xlt HU.out)).trans HU.out)
  have hz1 : w.heap.size + 2 ≤ w1.heap.size := by have := hb1.size; omega
  clear hb1 HB HQ HU HL hz
  have hne : w.heap.size ≠ w.heap.size + 1 := by omega
  cases hlx : lettersX s
  · have HA := Lib.hid (show ANS = .error 30 by rw [HX2.out, hlx]; rfl)
    obtain ⟨lu, fu⟩ := one_cell (cs' := #[.string ⟨#[]⟩, .string ⟨#[]⟩, .string ⟨#[]⟩, .slice none 0 0, .slice none 0 0]) HU1.out hne
    have HT := Lib.hid (two_cells (cs' := #[.string ⟨#[]⟩, .string ⟨#[]⟩, .string ⟨#[]⟩, .slice none 0 0, .slice none 0 0]) (y' := .int .i64 30) HQ1.out HU1.out hne)
    clear HX2 hlx HE
    go_wp2_with (refine wpList_store_row rfl 46 _ _ rfl w.heap.size _ rfl rfl 46 _ HQ1.out (by kernel_rfl) rfl (by simp [Value.oneCell']) ?_)
    obtain ⟨t1, t2, t3, t4, t5, t6, t7⟩ := HT.out
    rw [HA.out]
    exact ⟨_, results_parse _ _ w.heap.size (w.heap.size + 1) _ _ rfl rfl rfl t1 t2, HB1.out.trans ⟨t3, t4, t5, t6, fun k hk => t7 k (by omega) (by omega)⟩, rfl⟩
  have HX3 := Lib.hid (show ANS = endsX (if declared s then (match cutS [63, 62] s with | none => none | some (_, r) => coreX r) else coreX s) by rw [HX2.out, hlx]; rfl)
  clear HX2 hlx
  have HCut := Lib.hid (xcutPrefix_any s wDecl)
  have HIB := Lib.hid xindexB_any
  rw [trimP_eq] at HCut
  unfold wDecl at HCut
  have hb2 : Below w1.heap.size w1 (w1.alloc (.cells #[.string ⟨s.toArray⟩] 107 (0, 0))) := (Below.refl _ _).alloc (Nat.le_refl _) _
  have HP2 := Lib.hid (show InP w zeroCs w1.heap.size s (w1.alloc (.cells #[.string ⟨s.toArray⟩] 107 (0, 0))) from ⟨HB1.out.trans (hb2.mono HB1.out.size), (hb2.block _ (xlt HQ1.out)).trans HQ1.out, (hb2.block _ (xlt HU1.out)).trans HU1.out, heap_alloc_new w1 _, by omega, rfl⟩)
  clear hb2 HB1 HQ1 HU1
  go_wp2_with fail
  generalize w1.alloc (.cells #[.string ⟨s.toArray⟩] 107 (0, 0)) = w2 at *
  obtain ⟨p, hp⟩ : ∃ p, p = w1.heap.size := ⟨_, rfl⟩
  rw [← hp] at HP2 ⊢
  clear hp hz1
  obtain ⟨P, hP⟩ : ∃ P, P = [60, 63, 120, 109, 108].isPrefixOf s := ⟨_, rfl⟩
  rw [← hP] at HCut
  obtain ⟨R, hR⟩ : ∃ R, R = if P = true then s.drop ([60, 63, 120, 109, 108] : List UInt8).length else s := ⟨_, rfl⟩
  rw [← hR] at HCut
  have HPr := Lib.hid hP
  have HR := Lib.hid hR
  clear hP hR
  refine (HCut.out w2).mono ?_
  rintro e w3 ⟨rfl, rfl⟩
  clear HCut
  obtain ⟨D, hD⟩ : ∃ D, D = declared s := ⟨_, rfl⟩
  rw [← hD] at HX3
  have HD := Lib.hid hD
  clear hD
  go_upto_region 8 with (fail)
  go_cut [36] from 26 to 36 (fun v wc => w2 = wc ∧ v = .bool D)
  case first =>
    cases P
    · have hd0 : D = false := by rw [HD.out]; exact declared_no HPr.out.symm
      clear HX3
      go_wp2
      go_meet
      exact ⟨rfl, by rw [hd0]⟩
    have hR5 : R = s.drop 5 := by rw [HR.out, if_pos rfl]; rfl
    rcases R with _ | ⟨x, q⟩
    · have hd0 : D = false := by rw [HD.out]; exact declared_nil hR5.symm
      clear HX3 hR5 HR
      go_wp2
      go_meet
      exact ⟨rfl, by rw [hd0]⟩
    · have hd0 : D = whC x := by rw [HD.out]; exact declared_yes HPr.out.symm hR5.symm
      have HIx := Lib.hid (HIB.out x)
      have hw := index_white x
      generalize Lib.indexByte [9, 10, 13, 32] x = ix at *
      have hx0 : ∀ hk, (⟨(x :: q).toArray⟩ : ByteArray)[0]'hk = x := fun hk => rfl
      have hne : (x :: q).isEmpty = false := rfl
      have hl0 : 0 < (x :: q).length := Nat.succ_pos _
      clear HX3 hR5 HR HIB
      generalize x :: q = L at *
      cases hw2 : whC x
      · have hi : ¬ (0 ≤ ix) := by rw [hw2] at hw; simpa using hw.symm
        rw [hw2] at hd0
        clear hw hw2
        go_wp2_with (refine (HIx.out _).mono ?_; rintro e w4 ⟨rfl, rfl⟩)
        go_meet
        exact ⟨rfl, by first | (rw [hd0]; done) | (rw [hd0, decide_eq_false hi]; done) | (rw [hd0, decide_eq_true hi]; done) | (rw [hd0]; simp [hi])⟩
      · have hi : 0 ≤ ix := by rw [hw2] at hw; simpa using hw.symm
        rw [hw2] at hd0
        clear hw hw2
        go_wp2_with (refine (HIx.out _).mono ?_; rintro e w4 ⟨rfl, rfl⟩)
        go_meet
        exact ⟨rfl, by first | (rw [hd0]; done) | (rw [hd0, decide_eq_false hi]; done) | (rw [hd0, decide_eq_true hi]; done) | (rw [hd0]; simp [hi])⟩
  case rest =>
  obtain ⟨rfl, rfl⟩ := hcut
  clear HIB HD HPr HR
  go_upto_if 36 with (fail)
  go_cut [] from 37 to 38 (fun wc => ∃ s1 : List UInt8, s1.length ≤ 65536 ∧ Hid (InP w zeroCs p s1 wc) ∧ Hid (ANS = endsX (coreX s1)))
  case first =>
    cases D
    · have HK := Lib.hid (show ANS = endsX (coreX s) by rw [HX3.out]; rfl)
      clear HX3
      go_wp2
      go_meet
      exact ⟨s, by omega, HP2, HK⟩
    · have HK := Lib.hid (show ANS = endsX (match cutS [63, 62] s with | none => none | some (_, r) => coreX r) by rw [HX3.out]; rfl)
      clear HX3
      go_wp2_with fail
      refine (xupto_any p s [63, 62] w2 HP2.out.px (by omega) (HP2.out.env HE.out)).mono ?_
      rintro e w4 ⟨hg4, hx4⟩
      rcases h4 : cutS [63, 62] s with _ | ⟨a, r⟩
      · rw [h4] at hx4
        subst hx4
        exact HP2.out.stop hg4 (by rw [HK.out, h4]; rfl) _ rfl rfl
      rw [h4] at hx4
      obtain ⟨_, rfl, rfl, hp4⟩ := hx4
      have hl4 : r.length ≤ s.length := by
        have := congrArg List.length (cut_some h4)
        simp only [List.length_append] at this
        omega
      have HP4 := Lib.hid (HP2.out.step hg4 hp4)
      have HK4 := Lib.hid (show ANS = endsX (coreX r) by rw [HK.out, h4])
      clear h4 hp4 hg4 HK
      go_wp2
      go_meet
      exact ⟨r, by omega, HP4, HK4⟩
  case rest =>
  obtain ⟨s1, hl1, HP3, HK⟩ := hcut
  clear HX3 HP2
  have HK2 := Lib.hid (show ANS = endsX (match thenX (miscS s1) fun _ r => thenX (elemX [] r) fun n r => thenX (miscS r) fun _ r => if r = [] then some (n, r) else none with
    | none => none
    | some (n, _) => some n) from HK.out.trans (congrArg endsX (coreX_S s1)))
  clear HK
  go_wp2_with fail
  refine (xmisc_any p s1 _ HP3.out.px (by omega) (HP3.out.env HE.out)).mono ?_
  rintro e w4 ⟨hg4, hx4⟩
  rcases h4 : miscS s1 with _ | ⟨u4, r4⟩
  · rw [h4] at hx4
    subst hx4
    exact HP3.out.stop hg4 (by rw [HK2.out, h4]; rfl) _ rfl rfl
  rw [h4] at hx4
  obtain ⟨_, rfl, rfl, hp4⟩ := hx4
  have hl4 := misc_len _ _ _ _ h4
  have HP4 := Lib.hid (HP3.out.step hg4 hp4)
  have HK4 := Lib.hid (show ANS = endsX (match thenX (elemX [] r4) fun n r => thenX (miscS r) fun _ r => if r = [] then some (n, r) else none with
    | none => none
    | some (n, _) => some n) by rw [HK2.out, h4]; rfl)
  clear h4 hp4 hg4 HK2 HP3
  go_wp2_with fail
  refine (xelem_all p r4 (.pointer none) [] w4 HP4.out.px (by omega) (HP4.out.env HE.out) rfl).mono ?_
  rintro e w5 ⟨hg5, hx5⟩
  rcases h5 : elemX [] r4 with _ | ⟨n, r5⟩
  · rw [h5] at hx5
    subst hx5
    exact HP4.out.stop hg5 (by rw [HK4.out, h5]; rfl) _ rfl rfl
  rw [h5] at hx5
  obtain ⟨_, rfl, ⟨av, kv, rfl, hav, hkv⟩, hp5⟩ := hx5
  have hl5 := elemX_lt h5
  have hsm := elemX_small (by omega) rfl h5
  have hpw : p < w4.heap.size := HP4.out.px.lt
  have HP5 := Lib.hid (HP4.out.step hg5 hp5)
  have HAV := Lib.hid hav
  have HKV := Lib.hid hkv
  have HK5 := Lib.hid (show ANS = endsX (match thenX (miscS r5) fun _ r => if r = [] then some (n, r) else none with
    | none => none
    | some (n, _) => some n) by rw [HK4.out, h5]; rfl)
  have HSM := Lib.hid hsm
  obtain ⟨avA, avc, hav0⟩ := tab_shape hav.1
  obtain ⟨kvA, kvc, hkv0⟩ := tab_shape hkv.1
  subst hav0 hkv0
  clear h5 hp5 hg5 HK4 HP4 hav hkv hsm
  unfold nodeV
  obtain ⟨cs, hcs⟩ : ∃ cs, cs = (#[.string ⟨n.text.toArray⟩, .string ⟨n.space.toArray⟩, .string ⟨n.name.toArray⟩, .slice avA n.attrs.length avc, .slice kvA n.kids.length kvc] : Array Value) := ⟨_, rfl⟩
  obtain ⟨hp6, hg6⟩ := HP5.out.row (cs' := cs) (by rw [hcs]; rfl)
  have HM6 : Moves (w4.heap.size ≤ ·) (p < ·) w5 (w5.setRow w.heap.size cs) := Moves.grown hg6 fun k hk _ => ⟨Nat.lt_of_lt_of_le hpw hk, by intro e; injection e with e; have := HP5.out.lt; omega⟩
  have HAV6 := Lib.hid (HAV.out.move HM6)
  have HKV6 := Lib.hid (HKV.out.move HM6)
  rw [hcs] at hp6 HAV6 HKV6
  have HP6 := Lib.hid hp6
  clear hp6 hg6 HM6 hcs HAV HKV
  go_wp2_with (refine wpList_store_row rfl 46 _ _ rfl w.heap.size _ rfl rfl 46 _ HP5.out.q (by kernel_rfl) rfl (by simp [Value.oneCell']) ?_)
  clear HP5
  generalize w5.setRow w.heap.size #[.string ⟨n.text.toArray⟩, .string ⟨n.space.toArray⟩, .string ⟨n.name.toArray⟩, .slice avA n.attrs.length avc, .slice kvA n.kids.length kvc] = w6 at *
  refine (xmisc_any p r5 w6 HP6.out.px (by omega) (HP6.out.env HE.out)).mono ?_
  rintro e w7 ⟨hg7, hx7⟩
  have HM7 : Moves (p < ·) (p < ·) w6 w7 := Moves.grown hg7 fun k hk _ => ⟨hk, by intro e; injection e with e; omega⟩
  have HAV7 := Lib.hid (HAV6.out.move HM7)
  have HKV7 := Lib.hid (HKV6.out.move HM7)
  clear HM7 HAV6 HKV6
  rcases h7 : miscS r5 with _ | ⟨u7, r7⟩
  · rw [h7] at hx7
    subst hx7
    exact HP6.out.stop hg7 (by rw [HK5.out, h7]; rfl) _ rfl rfl
  rw [h7] at hx7
  obtain ⟨_, rfl, rfl, hp7⟩ := hx7
  have HP7 := Lib.hid (HP6.out.step hg7 hp7)
  have HK7 := Lib.hid (show ANS = endsX (if r7 = [] then some n else none) by
    rw [HK5.out, h7]
    by_cases h : r7 = []
    · rw [if_pos h]; show endsX (match (if r7 = [] then some (n, r7) else none : X1 NodeT) with | none => none | some (n, _) => some n) = _; rw [if_pos h]
    · rw [if_neg h]; show endsX (match (if r7 = [] then some (n, r7) else none : X1 NodeT) with | none => none | some (n, _) => some n) = _; rw [if_neg h])
  clear h7 hp7 hg7 HK5 HP6
  have x0 := HP7.out.px.c0
  by_cases hr7 : r7 = []
  rotate_left
  · have HA := Lib.hid (show ANS = .error 30 by rw [HK7.out, if_neg hr7]; rfl)
    have b0 : r7.isEmpty = false := by cases r7 with | nil => exact absurd rfl hr7 | cons => rfl
    clear hr7 HK7
    go_wp2_with fail
    refine (xfail_any _).mono ?_
    rintro e w9 ⟨rfl, rfl⟩
    exact HP7.out.stop (World.grownBy.refl _ _) HA.out _ rfl rfl
  have HK8 := Lib.hid (show ANS = if goodT n then .ok n else .error 31 by rw [HK7.out, if_pos hr7]; rfl)
  subst hr7
  clear HK7
  go_wp2_with (refine wpList_load_row rfl 46 _ rfl w.heap.size rfl 46 _ _ _ HP7.out.q Tryz.underlying46 rfl (by kernel_rfl) ?_)
  refine (xGoodT_any n _ _ w7 (HAV7.out.move (Moves.same w7 fun _ _ _ => trivial)) (HKV7.out.move (Moves.same w7 fun _ _ _ => trivial)) HSM.out (HP7.out.env HE.out).at).mono ?_
  rintro e w8 ⟨rfl, hb8⟩
  have HP8 := Lib.hid (HP7.out.below' hb8)
  have HAV8 := Lib.hid (HAV7.out.move (Moves.below hb8 fun _ hk _ => hk))
  have HKV8 := Lib.hid (HKV7.out.move (Moves.below hb8 fun _ hk _ => hk))
  clear hb8 HP7 HAV7 HKV7 HSM x0
  have hlt8 := HP8.out.lt
  cases hgd : goodT n
  · have HA := Lib.hid (show ANS = .error 31 by rw [HK8.out, hgd]; rfl)
    obtain ⟨lu, fu⟩ := one_cell (cs' := #[.string ⟨#[]⟩, .string ⟨#[]⟩, .string ⟨#[]⟩, .slice none 0 0, .slice none 0 0]) HP8.out.u hne
    have HT := Lib.hid (two_cells (cs' := #[.string ⟨#[]⟩, .string ⟨#[]⟩, .string ⟨#[]⟩, .slice none 0 0, .slice none 0 0]) (y' := .int .i64 31) HP8.out.q HP8.out.u hne)
    clear HK8 hgd
    go_wp2_with (refine wpList_store_row rfl 46 _ _ rfl w.heap.size _ rfl rfl 46 _ HP8.out.q (by kernel_rfl) rfl (by simp [Value.oneCell']) ?_)
    obtain ⟨t1, t2, t3, t4, t5, t6, t7⟩ := HT.out
    have hbw : Below w.heap.size w _ := HP8.out.below.trans ⟨t3, t4, t5, t6, fun k hk => t7 k (by omega) (by omega)⟩
    rw [HA.out]
    exact parse_done _ rfl rfl t1 rfl t2 ⟨hbw.alloc hbw.size _, rfl⟩
  · have HA := Lib.hid (show ANS = .ok n by rw [HK8.out, hgd]; rfl)
    obtain ⟨cs, hcs⟩ : ∃ cs, cs = (#[.string ⟨n.text.toArray⟩, .string ⟨n.space.toArray⟩, .string ⟨n.name.toArray⟩, .slice avA n.attrs.length avc, .slice kvA n.kids.length kvc] : Array Value) := ⟨_, rfl⟩
    obtain ⟨lu, fu⟩ := one_cell (cs' := cs) HP8.out.u hne
    have ht := two_cells (cs' := cs) (y' := .int .i64 0) HP8.out.q HP8.out.u hne
    have hm : Moves (p < ·) (w.heap.size ≤ ·) w8 ((w8.setRow w.heap.size cs).setCell ⟨w.heap.size + 1, 0, none⟩ (.int .i64 0)) := by
      obtain ⟨t1, t2, t3, t4, t5, t6, t7⟩ := ht
      exact ⟨t6, fun k hk _ => ⟨by omega, t7 k (by omega) (by omega)⟩⟩
    have HAV9 := Lib.hid (HAV8.out.move hm)
    have HKV9 := Lib.hid (HKV8.out.move hm)
    rw [hcs] at lu fu ht HAV9 HKV9
    have HT := Lib.hid ht
    clear HK8 hgd hm ht hcs HAV8 HKV8
    go_wp2_with (refine wpList_load_row rfl 46 _ rfl w.heap.size rfl 46 _ _ _ HP8.out.q Tryz.underlying46 rfl (by kernel_rfl) ?_; refine wpList_store_row rfl 46 _ _ rfl w.heap.size _ rfl rfl 46 _ HP8.out.q (by kernel_rfl) rfl (by simp [Value.oneCell']) ?_)
    obtain ⟨t1, t2, t3, t4, t5, t6, t7⟩ := HT.out
    have hbw : Below w.heap.size w _ := HP8.out.below.trans ⟨t3, t4, t5, t6, fun k hk => t7 k (by omega) (by omega)⟩
    rw [HA.out]
    refine parse_done _ rfl rfl t1 rfl t2 ⟨hbw.alloc hbw.size _, _, _, rfl, ?_, ?_⟩
    · exact HAV9.out.move (Moves.below ((Below.refl _ _).alloc (Nat.le_refl _) _) fun _ hk _ => hk)
    · exact HKV9.out.move (Moves.below ((Below.refl _ _).alloc (Nat.le_refl _) _) fun _ hk _ => hk)
end Go.Proofs.YtjkiehmjffgnlaaGreatDoor
namespace Go.Proofs.YtjkiehmjffgnlaaGreatDoor
set_option linter.unusedVariables false
set_option linter.unusedSimpArgs false
open Go.RowKit

theorem builderLenX (B b : Nat) (l : List UInt8) (w : World) (h : Bld B b l w) : Calls Tryz.prog 68 #[.pointer (some ⟨b, 0, none⟩)] w (Same0 (.int .i64 l.length) w) := by
  refine (Tryz.Builder_Len B b (Lib.byteCells l) w h).mono ?_
  rintro e w' ⟨rfl, rfl⟩
  rw [Lib.byteCells_length]
  exact ⟨rfl, rfl⟩
theorem boxOf (xs : List Value) (n : Nat) (hn : xs.length = n) (hx : n ≤ maxLen) {w : World} {k : Nat} (h : w.heap[k]? = some (.cells xs.toArray 9 (0, 0))) : RdL w (.slice (some ⟨k, 0, none⟩) n n) xs :=
  ⟨_, n, by rw [hn], by omega, hx, fun j u hj => ⟨k, 0, rfl, xlt h, by rw [xat h, Nat.zero_add, ← hj]; simp⟩⟩
def WriteP (x : Except Int (List UInt8)) (w : World) (e : Ending) (w' : World) : Prop := Below w.heap.size w w' ∧ match x with
  | .error k => e = .returned (.tuple #[.string ⟨#[]⟩, .int .i64 k])
  | .ok s => e = .returned (.tuple #[.string ⟨s.toArray⟩, .int .i64 0])
set_option maxHeartbeats 4000000 in
set_option maxRecDepth 100000 in
set_option linter.unusedSimpArgs false in
theorem xwrite_any (n : NodeT) (av kv : Value) (w : World) (ha : AttrsP anyB w av n.attrs) (hk : NodesP anyB w kv n.kids) (hs : SmallN 2000000 n) (hE : XEnv w) (hf : (formN [] n).length ≤ 90000000000000) : Calls Tryz.prog 50 #[nodeV n av kv] w (WriteP (writeX n) w) := by
  have hb0 : Below w.heap.size w (w.alloc (.cells #[.string ⟨n.text.toArray⟩, .string ⟨n.space.toArray⟩, .string ⟨n.name.toArray⟩, av, kv] 46 (0, 0))) := (Below.refl _ _).alloc (Nat.le_refl _) _
  have hq := heap_alloc_new w (.cells #[.string ⟨n.text.toArray⟩, .string ⟨n.space.toArray⟩, .string ⟨n.name.toArray⟩, av, kv] 46 (0, 0))
  have HN := Lib.hid (NodeP.of (t := n.text) (s := n.space) (n := n.name) ha hk)
  have HQ := Lib.hid hq
  have HB0 := Lib.hid hb0
  have HE := Lib.hid hE
  have HS := Lib.hid hs
  have HG := Lib.hid (fun w' (h : Below w.heap.size w w') => xGoodT_any n av kv w' (ha.move (Moves.below h fun _ _ _ => trivial)) (hk.move (Moves.below h fun _ _ _ => trivial)) hs (hE.below h))
  obtain ⟨aA, ac, rfl⟩ := tab_shape ha.1
  obtain ⟨kA, kc, rfl⟩ := tab_shape hk.1
  obtain ⟨ANS, hANS⟩ : ∃ A, A = writeX n := ⟨_, rfl⟩
  have HANS := Lib.hid hANS
  rw [← hANS]
  clear hANS ha hk hs hE hb0
  unfold nodeV at *
  go_enter Tryz.func50, Tryz.ntmps50
  go_wp2_with fail
  generalize w.alloc (.cells #[.string ⟨n.text.toArray⟩, .string ⟨n.space.toArray⟩, .string ⟨n.name.toArray⟩, .slice aA n.attrs.length ac, .slice kA n.kids.length kc] 46 (0, 0)) = w1 at *
  obtain ⟨q, hqe⟩ : ∃ q, q = w.heap.size := ⟨_, rfl⟩
  rw [← hqe] at hq HQ ⊢
  have HQE := Lib.hid hqe
  clear hqe
  refine (HG.out w1 HB0.out).mono ?_
  rintro e w2 ⟨rfl, hb2⟩
  have HB2 := Lib.hid (HB0.out.trans (hb2.mono HB0.out.size))
  have hq2 := (hb2.block _ (xlt hq)).trans hq
  clear hq HQ hb2 HG HB0
  cases hgd : goodT n
  · have HA := Lib.hid (show ANS = .error 30 by rw [HANS.out]; unfold writeX; rw [if_neg (by rw [hgd]; simp)])
    clear hgd HANS HN
    go_wp2
    go_ret2
    rw [HA.out]
    exact ⟨HB2.out, rfl⟩
  have HA := Lib.hid (show ANS = if 65536 < (formN [] n).length then .error 5 else .ok (formN [] n) by rw [HANS.out]; unfold writeX; rw [if_pos hgd])
  clear hgd HANS
  go_wp2_with fail
  have hbt0 : Below w2.heap.size w2 (w2.alloc (.cells (wordsV psT).toArray 9 (0, 0))) := (Below.refl _ _).alloc (Nat.le_refl _) _
  have hrt := boxOf (wordsV psT) 8 rfl (by unfold maxLen; decide) (heap_alloc_new w2 (.cells (wordsV psT).toArray 9 (0, 0)))
  refine (xnewW psT wideT_P _ 8 8 (w2.alloc (.cells (wordsV psT).toArray 9 (0, 0))) rfl hrt).mono ?_
  rintro e w3 ⟨b1, rfl, hge1, hb3, hbx1⟩
  have hb23 : Below w2.heap.size w2 w3 := hbt0.trans (hb3.mono hbt0.size)
  have hq3 := (hb23.block _ (xlt hq2)).trans hq2
  have HB3 := Lib.hid (HB2.out.trans (hb23.mono HB2.out.size))
  have hb1w : w2.heap.size ≤ b1 := Nat.le_trans hbt0.size hge1
  have hbx1 : BxP (w2.heap.size ≤ ·) w3 b1 psT := hbx1.move (Moves.same w3 fun k hk _ => Nat.le_trans hbt0.size hk)
  have HX1 := Lib.hid hbx1
  have HN1 := Lib.hid hb1w
  clear hbt0 hrt hge1 hb3 hb23 hq2 hbx1 hb1w
  go_wp2_with fail
  have hbt0 : Below w3.heap.size w3 (w3.alloc (.cells (wordsV psV).toArray 9 (0, 0))) := (Below.refl _ _).alloc (Nat.le_refl _) _
  have hrt := boxOf (wordsV psV) 12 rfl (by unfold maxLen; decide) (heap_alloc_new w3 (.cells (wordsV psV).toArray 9 (0, 0)))
  refine (xnewW psV wideV_P _ 12 12 (w3.alloc (.cells (wordsV psV).toArray 9 (0, 0))) rfl hrt).mono ?_
  rintro e w4 ⟨b2, rfl, hge2, hb4, hbx2⟩
  have hb34 : Below w3.heap.size w3 w4 := hbt0.trans (hb4.mono hbt0.size)
  have hq4 := (hb34.block _ (xlt hq3)).trans hq3
  have HB4 := Lib.hid (HB3.out.trans (hb34.mono HB3.out.size))
  have hb2w : w3.heap.size ≤ b2 := Nat.le_trans hbt0.size hge2
  have hlt1 := HX1.out.lt
  have HX1' := Lib.hid (show BxP (fun k => w2.heap.size ≤ k ∧ k < w3.heap.size) w4 b1 psT from (HX1.out.move (Moves.same (Q := fun k => w2.heap.size ≤ k ∧ k < w3.heap.size) w3 fun k hk hlt => ⟨hk, hlt⟩)).move (Moves.below hb34 fun _ hk _ => hk))
  have HX2 := Lib.hid (show BxP (w3.heap.size ≤ ·) w4 b2 psV from hbx2.move (Moves.same w4 fun k hk _ => Nat.le_trans hbt0.size hk))
  clear hbt0 hrt hge2 hb4 hq3 hbx2 HB3
  have hlt2 := HX2.out.lt
  have hb45 : Below w4.heap.size w4 (w4.alloc (.cells #[.pointer none, .slice none 0 0] 118)) := (Below.refl _ _).alloc (Nat.le_refl _) _
  have hq5 := (hb45.block _ (xlt hq4)).trans hq4
  have z0 := xat hq5 0
  have z1 := xat hq5 1
  have z2 := xat hq5 2
  have z3 := xat hq5 3
  have z4 := xat hq5 4
  simp only [List.getElem?_toArray, List.getElem?_cons_zero, List.getElem?_cons_succ] at z0 z1 z2 z3 z4
  have hsz4 := hb34.size
  have hn1 := HN1.out
  have hfs : FS w2.heap.size w4.heap.size b1 b2 none [] (w4.alloc (.cells #[.pointer none, .slice none 0 0] 118)) :=
    ⟨⟨_, _, by omega, .inl rfl, heap_alloc_new w4 _, World.ownsRow_nil _ _ _ _, rfl, by simp⟩,
      HX1'.out.move (Moves.below hb45 fun k hk hlt => ⟨⟨by omega, by simp⟩, by omega⟩),
      HX2.out.move (Moves.below hb45 fun k hk hlt => ⟨⟨by omega, by simp⟩, by omega⟩), by omega, by omega⟩
  have HB5 := Lib.hid (HB4.out.trans (hb45.mono HB4.out.size))
  have HFo := Lib.hid (xform_any (w0 := w) (cs := [.string ⟨n.text.toArray⟩, .string ⟨n.space.toArray⟩, .string ⟨n.name.toArray⟩, .slice aA n.attrs.length ac, .slice kA n.kids.length kc]) (n := n) (by have := HN.out; obtain ⟨t, s, m, ats, ks⟩ := n; exact this) HS.out w2.heap.size w4.heap.size b1 b2 none [] [] _ HB2.out.size HB5.out hfs (by simpa using hf))
  have HFS := Lib.hid hfs
  clear hb45 hq5 hb34 hq4 hlt1 hlt2 hsz4 hn1 hfs HX1 HX1' HX2 HN1 HN HS hb2w
  go_wp2_with fail
  refine HFo.out.mono ?_
  rintro e w6 ⟨rfl, r6, hf6, hr6⟩
  have HF6 := Lib.hid (show FS w2.heap.size w4.heap.size b1 b2 r6 (formN [] n) w6 from hf6)
  have HB6 := Lib.hid (HB5.out.trans ((FFr.below HFS.out hr6).mono HB2.out.size))
  clear hf6 hr6 z0 z1 z2 z3 z4 HFo HFS HB5 HB4
  go_wp2_with fail
  refine (builderLenX _ _ _ w6 HF6.out.bld.bld).mono ?_
  rintro e w7 ⟨rfl, rfl⟩
  by_cases h6 : 65536 < (formN [] n).length
  · have HAN := Lib.hid (show ANS = .error 5 by rw [HA.out, if_pos h6])
    have hd : decide ((formN [] n).length > (65536 : Int)) = true := decide_eq_true (by omega)
    have hd2 : decide ((65536 : Int) < (formN [] n).length) = true := decide_eq_true (by omega)
    have hi : (65536 : Int) < (formN [] n).length := by omega
    clear HA h6
    generalize formN [] n = L at *
    go_wp2
    go_ret2
    rw [HAN.out]
    exact ⟨HB6.out, rfl⟩
  have HAN := Lib.hid (show ANS = .ok (formN [] n) by rw [HA.out, if_neg h6])
  have hd : decide ((formN [] n).length > (65536 : Int)) = false := decide_eq_false (by omega)
  have hd2 : decide ((65536 : Int) < (formN [] n).length) = false := decide_eq_false (by omega)
  have hi : ¬ (65536 : Int) < (formN [] n).length := by omega
  clear HA h6
  generalize formN [] n = L at *
  go_wp2_with fail
  refine (builderString_any _ _ _ w6 HF6.out.bld.bld).mono ?_
  rintro e w8 ⟨rfl, hb8⟩
  go_wp2
  go_ret2
  rw [HAN.out]
  exact ⟨HB6.out.trans (hb8.mono HB2.out.size), rfl⟩
end Go.Proofs.YtjkiehmjffgnlaaGreatDoor

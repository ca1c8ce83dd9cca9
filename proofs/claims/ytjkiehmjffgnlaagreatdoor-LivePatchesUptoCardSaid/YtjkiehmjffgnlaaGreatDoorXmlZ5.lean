import Derived.Test.YtjkiehmjffgnlaaGreatDoorXmlZ4
import Derived.Lib.Fold
import Derived.ScopeJumps
namespace Go.Proofs.YtjkiehmjffgnlaaGreatDoor
set_option linter.unusedVariables false
set_option linter.unusedSimpArgs false
open Go.RowKit

theorem eat_lenX {w s r : List UInt8} {u : Unit} (h : eatX w s = some (u, r)) : s.length = w.length + r.length := by
  rw [eatX_some h, List.length_append]
theorem nameOk_cons (x : UInt8) (r : List UInt8) : nameOk (x :: r) = (firC x && (x :: r).all othC) := rfl
set_option maxHeartbeats 2000000 in
set_option maxRecDepth 100000 in
set_option linter.unusedSimpArgs false in
theorem xname_any (s : List UInt8) (w : World) (hs : s.length ≤ 1000000000) : Calls Tryz.prog 133 #[.string ⟨s.toArray⟩] w (Same0 (.bool (nameOk s)) w) := by
  rcases s with _ | ⟨x, r⟩
  · go_enter Tryz.func133, Tryz.ntmps133
    go_wp2
    go_ret
    exact ⟨rfl, rfl⟩
  · have HF := Lib.hid (xfirst_any x w)
    have HO := Lib.hid xother_any
    have hx0 : ∀ hk, (⟨(x :: r).toArray⟩ : ByteArray)[0]'hk = x := fun hk => rfl
    have hne : (x :: r).isEmpty = false := rfl
    obtain ⟨ANS, hA⟩ : ∃ A, nameOk (x :: r) = A := ⟨_, rfl⟩
    rw [hA]
    have HA := Lib.hid hA
    have HC := Lib.hid (nameOk_cons x r)
    have hlen : 0 < (x :: r).length := Nat.succ_pos _
    have H0 := Lib.hid (show (x :: r)[0]? = some x from rfl)
    generalize hl : x :: r = l at *
    clear hA hl
    cases hf : firC x
    · rw [hf] at HF HC
      obtain rfl : ANS = false := by rw [← HA.out, HC.out]; rfl
      clear hf HC HA HO
      go_enter Tryz.func133, Tryz.ntmps133
      go_wp2_with fail
      refine HF.out.mono ?_
      rintro e w1 ⟨rfl, rfl⟩
      go_wp2
      go_ret
      exact ⟨rfl, rfl⟩
    · rw [hf] at HF HC
      have HK0 := Lib.hid (show l.all othC = ANS by rw [← HA.out, HC.out]; rfl)
      clear hf HC HA
      go_enter Tryz.func133, Tryz.ntmps133
      go_wp2_with fail
      refine HF.out.mono ?_
      rintro e w1 ⟨rfl, rfl⟩
      clear HF
      go_wp2_with fail
      go_loop [14] (fun i => ∃ k : Nat, k ≤ l.length ∧ i = .int .i64 k ∧ Hid ((l.drop k).all othC = ANS)) (fun i => l.length - (intOf i).toNat)
      case atStart => exact ⟨0, Nat.zero_le _, rfl, HK0⟩
      case round =>
        obtain ⟨k, hk, rfl, HK⟩ := hrel
        clear HK0
        rcases hd : l.drop k with _ | ⟨y, q⟩
        · have hk2 : k = l.length := by have := drop_nil hd; omega
          rw [hd] at HK
          obtain rfl : true = ANS := HK.out
          clear hd HK
          subst hk2
          go_wp2
          go_ret
          exact ⟨rfl, rfl⟩
        · obtain ⟨hlt, hy, hq⟩ := drop_cons hd
          rw [hd, List.all_cons] at HK
          have Hq := Lib.hid hq
          clear hd hq
          have HOy := Lib.hid (HO.out y)
          cases hoy : othC y
          · rw [hoy] at HK HOy
            obtain rfl : false = ANS := HK.out
            clear HK hoy
            go_wp2_with (refine (HOy.out _).mono ?_; rintro e w2 ⟨rfl, rfl⟩)
            go_ret
            exact ⟨rfl, rfl⟩
          · rw [hoy, Bool.true_and] at HK
            rw [hoy] at HOy
            clear hoy
            go_wp2_with (refine (HOy.out _).mono ?_; rintro e w2 ⟨rfl, rfl⟩)
            go_round
            case rel => exact ⟨k + 1, by omega, by go_num, by rw [Hq.out]; exact HK.out⟩
            case measure => simp [intOf]; omega
set_option maxHeartbeats 2000000 in
set_option maxRecDepth 100000 in
set_option linter.unusedSimpArgs false in
theorem xpname_any (b : Nat) (s : List UInt8) (w : World) (h : PX w b s) (hs : s.length ≤ 1000000000) : Calls Tryz.prog 109 #[.pointer (some ⟨b, 0, none⟩)] w (XOut b (nameX s) strV w) := by
  have c0 := h.c0
  have f0 := h.f0
  have H := Lib.hid h
  have HO := Lib.hid xother_any
  have HN := Lib.hid (fun a (ha : a.length ≤ 1000000000) w => xname_any a w ha)
  have hX : nameX s = if nameOk (s.takeWhile othC) then some (s.takeWhile othC, s.dropWhile othC) else none := rfl
  obtain ⟨ANS, hA⟩ : ∃ A, nameX s = A := ⟨_, rfl⟩
  rw [hA] at hX ⊢
  have HX := Lib.hid hX
  clear hX
  have htk := takeW_drop othC s
  have HT := Lib.hid (List.takeWhile_append_dropWhile (p := othC) (l := s))
  clear h hA
  go_enter Tryz.func109, Tryz.ntmps109
  go_wp2_with fail
  go_loop [3] (fun i => ∃ k : Nat, k ≤ s.length ∧ i = .int .i64 k ∧ Hid (s.takeWhile othC = s.take k ++ (s.drop k).takeWhile othC)) (fun i => s.length - (intOf i).toNat)
  case atStart => exact ⟨0, Nat.zero_le _, rfl, Lib.hid rfl⟩
  case round =>
    obtain ⟨k, hk, rfl, HK⟩ := hrel
    have fin : (∀ c q, s.drop k = c :: q → othC c = false) → s.takeWhile othC = s.take k ∧ s.dropWhile othC = s.drop k := fun hh => by
      have e1 : (s.drop k).takeWhile othC = [] := by
        rcases hd : s.drop k with _ | ⟨y, q⟩
        · rfl
        · rw [List.takeWhile_cons, hh y q hd]; rfl
      have e2 := HK.out
      rw [e1, List.append_nil] at e2
      refine ⟨e2, ?_⟩
      have e3 := HT.out
      rw [e2] at e3
      exact List.append_cancel_left (e3.trans (List.take_append_drop k s).symm)
    have HFin := Lib.hid fin
    clear fin
    rcases hd : s.drop k with _ | ⟨y, q⟩
    · have hk2 : k = s.length := by have := drop_nil hd; omega
      have hF := HFin.out (fun c q h => by rw [hd] at h; cases h)
      rw [hF.1, hF.2] at HX
      have HNm := Lib.hid (HN.out (s.take k) (by rw [List.length_take]; omega) w)
      have HS := Lib.hid (H.out.set (s.drop k))
      have k1 : ¬ (k : Int) < s.length := by omega
      have k2 : (k : Int) ≤ s.length := by omega
      have k3 : (0 : Int) ≤ k := by omega
      clear HFin hF HK HT HO HN hd htk hk2
      cases hn : nameOk (s.take k)
      · rw [hn] at HNm HX
        clear hn HS
        go_wp2_with fail
        refine HNm.out.mono ?_
        rintro e w2 ⟨rfl, rfl⟩
        go_wp2_with fail
        refine (xfail_any _).mono ?_
        rintro e w3 ⟨rfl, rfl⟩
        exact ⟨rfl, xout_no HX.out (World.grownBy.refl _ _)⟩
      · rw [hn] at HNm HX
        clear hn
        go_wp2_with fail
        refine HNm.out.mono ?_
        rintro e w2 ⟨rfl, rfl⟩
        go_wp2
        go_ret
        exact xout_ok HX.out (xgrown_cell _ _ _ _) rfl HS.out
    · obtain ⟨hlt, hy, hq⟩ := drop_cons hd
      have k1 : (k : Int) < s.length := by omega
      have k2 : (k : Int) ≤ s.length := by omega
      have k3 : (0 : Int) ≤ k := by omega
      have HOy := Lib.hid (HO.out y w)
      cases hoy : othC y
      · have hF := HFin.out (fun c q' h => by rw [hd] at h; injection h with h _; rw [← h]; exact hoy)
        rw [hF.1, hF.2] at HX
        rw [hoy] at HOy
        have HNm := Lib.hid (HN.out (s.take k) (by rw [List.length_take]; omega) w)
        have HS := Lib.hid (H.out.set (s.drop k))
        clear HFin hF HK HT HO HN hd htk hoy hq
        cases hn : nameOk (s.take k)
        · rw [hn] at HNm HX
          clear hn HS
          go_wp2_with fail
          refine HOy.out.mono ?_
          rintro e w4 ⟨rfl, rfl⟩
          go_wp2_with fail
          refine HNm.out.mono ?_
          rintro e w2 ⟨rfl, rfl⟩
          go_wp2_with fail
          refine (xfail_any _).mono ?_
          rintro e w3 ⟨rfl, rfl⟩
          exact ⟨rfl, xout_no HX.out (World.grownBy.refl _ _)⟩
        · rw [hn] at HNm HX
          clear hn
          go_wp2_with fail
          refine HOy.out.mono ?_
          rintro e w4 ⟨rfl, rfl⟩
          go_wp2_with fail
          refine HNm.out.mono ?_
          rintro e w2 ⟨rfl, rfl⟩
          go_wp2
          go_ret
          exact xout_ok HX.out (xgrown_cell _ _ _ _) rfl HS.out
      · have HK2 := Lib.hid (show s.takeWhile othC = s.take (k + 1) ++ (s.drop (k + 1)).takeWhile othC by
          rw [HK.out, hd, List.takeWhile_cons, hoy, if_pos rfl, hq, List.take_add_one]
          have : s[k]? = some y := by
            have := List.getElem?_drop (xs := s) (i := k) (j := 0)
            rw [hd] at this
            exact this.symm
          rw [this]
          simp)
        rw [hoy] at HOy
        clear HFin HK HT HO HN hd htk hoy hq
        go_wp2_with fail
        refine HOy.out.mono ?_
        rintro e w4 ⟨rfl, rfl⟩
        go_wp2
        go_round
        case rel => exact ⟨k + 1, by omega, by go_num, HK2⟩
        case measure => simp [intOf]; omega
set_option maxHeartbeats 2000000 in
set_option maxRecDepth 100000 in
set_option linter.unusedSimpArgs false in
theorem xqname_any (b : Nat) (s : List UInt8) (w : World) (h : PX w b s) (hs : s.length ≤ 1000000000) : Calls Tryz.prog 87 #[.pointer (some ⟨b, 0, none⟩)] w (XOut b (qnameX s) pairV w) := by
  have HN1 := Lib.hid (xpname_any b s w h hs)
  have HN2 := Lib.hid (fun w s (h : PX w b s) (hs : s.length ≤ 1000000000) => xpname_any b s w h hs)
  have HE2 := Lib.hid (fun w s (h : PX w b s) => xeat_any b s [58] w h)
  have hX : qnameX s = thenX (nameX s) fun a r => match eatX [58] r with
    | none => some (([], a), r)
    | some (_, q) => thenX (nameX q) fun b q => some ((a, b), q) := rfl
  obtain ⟨ANS, hA⟩ : ∃ A, qnameX s = A := ⟨_, rfl⟩
  rw [hA] at hX ⊢
  have HX := Lib.hid hX
  clear h hA hX
  go_enter Tryz.func87, Tryz.ntmps87
  go_wp2_with fail
  refine HN1.out.mono ?_
  rintro e w1 ⟨hg, hx⟩
  rcases hr : nameX s with _ | ⟨a, r⟩
  · rw [hr] at hx HX
    subst hx
    exact ⟨rfl, xout_no HX.out hg⟩
  · rw [hr] at hx HX
    obtain ⟨v, rfl, rfl, hp⟩ := hx
    have hl := nameX_len hr
    have HP := Lib.hid hp
    have HG := Lib.hid hg
    clear hr hp hg HN1
    go_wp2_with fail
    refine (HE2.out w1 r HP.out).mono ?_
    rintro e w2 ⟨hg2, hx2⟩
    have hg3 := grown_trans HG.out hg2
    rcases hr2 : eatX [58] r with _ | ⟨u, q⟩
    · rw [hr2] at hx2
      obtain ⟨rfl, hp2⟩ := hx2
      have HX2 := Lib.hid (show ANS = some (([], a), r) by rw [HX.out]; show (match eatX [58] r with
        | none => some (([], a), r)
        | some (_, q) => thenX (nameX q) fun b q => some ((a, b), q) : X1 (List UInt8 × List UInt8)) = _; rw [hr2])
      have HP2 := Lib.hid hp2
      have HG3 := Lib.hid hg3
      clear hr2 hg2 hg3 hp2 HX HN2 HE2 HP HG
      go_wp2
      go_ret2
      exact xout_ok HX2.out HG3.out rfl HP2.out
    · rw [hr2] at hx2
      obtain ⟨rfl, hp2⟩ := hx2
      have HX2 := Lib.hid (show ANS = thenX (nameX q) fun b q => some ((a, b), q) by rw [HX.out]; show (match eatX [58] r with
        | none => some (([], a), r)
        | some (_, q) => thenX (nameX q) fun b q => some ((a, b), q) : X1 (List UInt8 × List UInt8)) = _; rw [hr2])
      have hl2 := eat_lenX hr2
      have HP2 := Lib.hid hp2
      have HG3 := Lib.hid hg3
      clear hr2 hg2 hg3 hp2 HX HE2 HP HG
      go_wp2_with fail
      refine (HN2.out w2 q HP2.out (by omega)).mono ?_
      rintro e w3 ⟨hg4, hx4⟩
      have hg5 := grown_trans HG3.out hg4
      rcases hr4 : nameX q with _ | ⟨a2, r2⟩
      · rw [hr4] at hx4 HX2
        subst hx4
        exact ⟨rfl, xout_no HX2.out hg5⟩
      · rw [hr4] at hx4 HX2
        obtain ⟨v, rfl, rfl, hp4⟩ := hx4
        have HP4 := Lib.hid hp4
        have HG5 := Lib.hid hg5
        clear hr4 hg4 hg5 hp4 HP2 HG3 HN2
        go_wp2
        go_ret2
        exact xout_ok HX2.out HG5.out rfl HP4.out
set_option maxHeartbeats 2000000 in
set_option maxRecDepth 100000 in
set_option linter.unusedSimpArgs false in
theorem xfind_any (P : Nat → Prop) (p : List UInt8) (w : World) : ∀ (sc : Scope) (v : Value), ScP P w v sc → Calls Tryz.prog 89 #[v, .string ⟨p.toArray⟩] w (Same0 (match findX sc p with
    | some s => .tuple #[.string ⟨s.toArray⟩, .bool true]
    | none => .tuple #[.string ⟨#[]⟩, .bool false]) w) := by
  intro sc v hv
  obtain ⟨ANS, hA⟩ : ∃ A, findX sc p = A := ⟨_, rfl⟩
  rw [hA]
  have HA := Lib.hid hA
  have HV := Lib.hid hv
  clear hA hv
  go_enter Tryz.func89, Tryz.ntmps89
  go_wp2_with fail
  go_loopg [0] sc.length (fun g v wr => wr = w ∧ ∃ sc' : Scope, sc'.length = g ∧ ScP P w v sc' ∧ Hid (findX sc' p = ANS))
  case atStart => exact ⟨rfl, sc, rfl, HV.out, HA⟩
  case round =>
    obtain ⟨rfl, sc', hl, hv, HK⟩ := hrel
    clear HA HV
    rcases sc' with _ | ⟨⟨q, s⟩, r⟩
    · obtain rfl := hv
      rcases p with _ | ⟨c, p⟩
      · obtain rfl : some [] = ANS := HK.out
        clear HK
        go_wp2
        go_ret2
        exact ⟨rfl, rfl⟩
      · obtain rfl : none = ANS := HK.out
        have he : (c :: p).isEmpty = false := rfl
        generalize c :: p = p' at *
        clear HK
        go_wp2
        go_ret2
        exact ⟨rfl, rfl⟩
    · obtain ⟨b, up, rfl, hp, hc, hr⟩ := hv
      have c0 := xat hc 0
      have c1 := xat hc 1
      have c2 := xat hc 2
      simp only [List.getElem?_toArray, List.getElem?_cons_zero, List.getElem?_cons_succ] at c0 c1 c2
      have HR := Lib.hid hr
      have hK := HK.out
      unfold findX at hK
      clear hc hp hr HK
      by_cases hq : q = p
      · rw [if_pos hq] at hK
        subst hK
        have e : (q == p) = true := beq_iff_eq.2 hq
        clear hq
        go_wp2
        go_ret2
        exact ⟨rfl, rfl⟩
      · rw [if_neg hq] at hK
        have e : (q == p) = false := beq_eq_false_iff_ne.2 hq
        have HK := Lib.hid hK
        clear hq hK
        go_wp2
        go_roundg r.length
        case measure => rw [← hl]; exact Nat.lt_succ_self _
        case rel => exact ⟨rfl, r, rfl, HR.out, HK⟩
end Go.Proofs.YtjkiehmjffgnlaaGreatDoor
namespace Go.Proofs.YtjkiehmjffgnlaaGreatDoor
set_option linter.unusedVariables false
set_option linter.unusedSimpArgs false
open Go.RowKit

/-- the letters of "xml", small and great, and what each is folded to. -/
def foldP (x y : Int) : Prop := (x = 120 ∧ y = 88) ∨ (x = 88 ∧ y = 120) ∨ (x = 109 ∧ y = 77) ∨ (x = 77 ∧ y = 109) ∨ (x = 108 ∧ y = 76) ∨ (x = 76 ∧ y = 108)
set_option maxHeartbeats 2000000 in
set_option maxRecDepth 100000 in
set_option linter.unusedSimpArgs false in
theorem sfold_any (x y : Int) (w : World) (h : foldP x y) (hE : XEnv w) : Calls Tryz.prog 131 #[.int .i32 x] w (Same0 (.int .i32 y) w) := by
  have hg : Tryz.prog.globalNamed "unicode.asciiFold" = some 6 := by kernel_rfl
  have hl : foldTab.length = 128 := by unfold foldTab; simp
  rcases h with ⟨rfl, rfl⟩ | ⟨rfl, rfl⟩ | ⟨rfl, rfl⟩ | ⟨rfl, rfl⟩ | ⟨rfl, rfl⟩ | ⟨rfl, rfl⟩
  · have hc : w.cell? ⟨6, 120, none⟩ = some (.int .u16 88) := hE.fold.cell hg 120 (by rw [hl]; decide)
    clear hE hg hl
    go_enter Tryz.func131, Tryz.ntmps131
    go_wp2
    go_ret
    exact ⟨rfl, rfl⟩
  · have hc : w.cell? ⟨6, 88, none⟩ = some (.int .u16 120) := hE.fold.cell hg 88 (by rw [hl]; decide)
    clear hE hg hl
    go_enter Tryz.func131, Tryz.ntmps131
    go_wp2
    go_ret
    exact ⟨rfl, rfl⟩
  · have hc : w.cell? ⟨6, 109, none⟩ = some (.int .u16 77) := hE.fold.cell hg 109 (by rw [hl]; decide)
    clear hE hg hl
    go_enter Tryz.func131, Tryz.ntmps131
    go_wp2
    go_ret
    exact ⟨rfl, rfl⟩
  · have hc : w.cell? ⟨6, 77, none⟩ = some (.int .u16 109) := hE.fold.cell hg 77 (by rw [hl]; decide)
    clear hE hg hl
    go_enter Tryz.func131, Tryz.ntmps131
    go_wp2
    go_ret
    exact ⟨rfl, rfl⟩
  · have hc : w.cell? ⟨6, 108, none⟩ = some (.int .u16 76) := hE.fold.cell hg 108 (by rw [hl]; decide)
    clear hE hg hl
    go_enter Tryz.func131, Tryz.ntmps131
    go_wp2
    go_ret
    exact ⟨rfl, rfl⟩
  · have hc : w.cell? ⟨6, 76, none⟩ = some (.int .u16 108) := hE.fold.cell hg 76 (by rw [hl]; decide)
    clear hE hg hl
    go_enter Tryz.func131, Tryz.ntmps131
    go_wp2
    go_ret
    exact ⟨rfl, rfl⟩
def foldR : List UInt8 → List UInt8 → Bool
  | [], [] => true
  | x :: s, y :: t => decide (x.toNat < 128) && Lib.foldEq x y && foldR s t
  | _, _ => false
theorem foldX_R (n : List UInt8) : foldX n = foldR n [120, 109, 108] := by
  match n with
  | [] => rfl
  | [a] => simp [foldX, foldR]
  | [a, b] => simp [foldX, foldR]
  | [a, b, c] =>
    have h1 := u8_allX (fun a => decide (a = 120 ∨ a = 88) == (decide (a.toNat < 128) && Lib.foldEq a 120)) (by decide +kernel) a
    have h2 := u8_allX (fun a => decide (a = 109 ∨ a = 77) == (decide (a.toNat < 128) && Lib.foldEq a 109)) (by decide +kernel) b
    have h3 := u8_allX (fun a => decide (a = 108 ∨ a = 76) == (decide (a.toNat < 128) && Lib.foldEq a 108)) (by decide +kernel) c
    simp only [beq_iff_eq] at h1 h2 h3
    show (decide (a = 120 ∨ a = 88) && decide (b = 109 ∨ b = 77) && decide (c = 108 ∨ c = 76)) = ((decide (a.toNat < 128) && Lib.foldEq a 120) && ((decide (b.toNat < 128) && Lib.foldEq b 109) && ((decide (c.toNat < 128) && Lib.foldEq c 108) && true)))
    rw [h1, h2, h3]
    generalize (decide (a.toNat < 128) && Lib.foldEq a 120) = p
    generalize (decide (b.toNat < 128) && Lib.foldEq b 109) = q
    generalize (decide (c.toNat < 128) && Lib.foldEq c 108) = r
    cases p <;> cases q <;> cases r <;> rfl
  | a :: b :: c :: d :: q => simp [foldX, foldR]
theorem or_low (x : UInt8) (y : Int) (hy : y = 120 ∨ y = 109 ∨ y = 108) : (128 ≤ bits .or .u8 (x.toNat : Int) y ↔ 128 ≤ (x.toNat : Int)) := by
  have key : ∀ k : Nat, k < 128 → bits .or .u8 (x.toNat : Int) (k : Int) = ((x.toNat ||| k : Nat) : Int) := fun k hk => u8_or_nat x.toNat k x.toNat_lt (by omega)
  have h1 := u8_allX (fun x => decide (128 ≤ x.toNat ||| 120) == decide (128 ≤ x.toNat) && decide (128 ≤ x.toNat ||| 109) == decide (128 ≤ x.toNat) && decide (128 ≤ x.toNat ||| 108) == decide (128 ≤ x.toNat)) (by decide +kernel) x
  simp only [Bool.and_eq_true, beq_iff_eq, decide_eq_decide] at h1
  rcases hy with rfl | rfl | rfl
  · rw [show (120 : Int) = ((120 : Nat) : Int) from rfl, key 120 (by omega)]; omega
  · rw [show (109 : Int) = ((109 : Nat) : Int) from rfl, key 109 (by omega)]; omega
  · rw [show (108 : Int) = ((108 : Nat) : Int) from rfl, key 108 (by omega)]; omega
end Go.Proofs.YtjkiehmjffgnlaaGreatDoor
namespace Go.Proofs.YtjkiehmjffgnlaaGreatDoor
set_option linter.unusedVariables false
set_option linter.unusedSimpArgs false
open Go.RowKit

theorem foldR_end (n : List UInt8) (M : Nat) (hM : M = min n.length 3) : foldR (n.drop M) (([120, 109, 108] : List UInt8).drop M) = decide (n.length = 3) := by
  by_cases h : n.length ≤ 3
  · have e : M = n.length := by omega
    rw [e, List.drop_length]
    rcases (by omega : n.length = 0 ∨ n.length = 1 ∨ n.length = 2 ∨ n.length = 3) with h | h | h | h <;> rw [h] <;> rfl
  · have e : M = 3 := by omega
    subst e
    have hne : n.drop 3 ≠ [] := by
      intro h0
      have := congrArg List.length h0
      rw [List.length_drop] at this
      simp at this
      omega
    obtain ⟨c, q, hc⟩ := List.exists_cons_of_ne_nil hne
    rw [hc, decide_eq_false (by omega)]
    rfl
theorem foldEq_low (x : UInt8) (y : UInt8) (hy : 97 ≤ y.toNat ∧ y.toNat ≤ 122) (hx : x.toNat < 128) : Lib.foldEq x y = decide ((x.toNat : Int) = y.toNat ∨ (65 ≤ (x.toNat : Int) ∧ (x.toNat : Int) ≤ 90 ∧ (x.toNat : Int) + 32 = y.toNat)) := by
  unfold Lib.foldEq
  rw [decide_eq_decide]
  omega
def frameJ (n T : List UInt8) (k : Nat) (u : Nat → Value) : Act := { tmps := #[.string ⟨n.toArray⟩, .string ⟨T.toArray⟩, u 2, u 3, u 4, .int .i64 (k : Int), u 6, u 7, u 8, u 9, u 10, u 11, u 12, u 13, u 14, u 15, u 16, u 17, u 18, u 19, u 20, u 21, u 22, u 23, u 24, u 25, u 26, u 27, u 28, u 29, u 30, u 31, u 32, u 33, u 34, u 35, u 36, u 37, u 38, u 39, u 40, u 41, u 42, u 43, u 44, u 45, u 46, u 47, u 48, u 49, u 50, u 51, u 52, u 53, u 54, u 55, u 56, u 57, u 58, u 59, u 60, u 61, u 62, u 63, u 64, u 65, u 66, u 67, u 68, u 69, u 70, u 71, u 72, u 73, u 74, u 75, u 76, u 77, u 78, u 79, u 80, u 81, u 82, u 83, u 84, u 85, u 86, u 87, u 88, u 89, u 90, u 91, u 92, u 93, u 94, u 95, u 96, u 97, u 98, u 99, u 100, u 101, u 102, u 103, u 104, u 105, u 106, u 107, u 108, u 109, u 110, u 111, u 112, u 113, u 114, u 115, u 116, u 117, u 118, u 119, u 120, u 121, u 122], defers := [] }
def FJ (n T : List UInt8) (ans : Bool) (w : World) (a : Act) (w' : World) : Prop := w' = w ∧ ∃ (k : Nat) (x : UInt8), (k < n.length ∧ k < 3 ∧ n[k]? = some x ∧ 128 ≤ x.toNat ∧ ans = false) ∧ a = frameJ n T k (fun i => a.tmps.getD i undef)
set_option maxHeartbeats 8000000 in
set_option maxRecDepth 100000 in
set_option linter.unusedSimpArgs false in
theorem xfold_gen (n T : List UInt8) (w : World) (hT : T = [120, 109, 108]) (hn : n.length ≤ 1000000000) (hE : XEnv w) : Calls Tryz.prog 108 #[.string ⟨n.toArray⟩, .string ⟨T.toArray⟩] w (Ret (.bool (foldR n T)) w) := by
  obtain ⟨ANS, hA⟩ : ∃ A, foldR n T = A := ⟨_, rfl⟩
  rw [hA]
  have HA := Lib.hid hA
  have HE := Lib.hid (fun w' (hb : Below w.heap.size w w') => hE.below hb)
  obtain ⟨M, hM⟩ : ∃ M : Nat, M = min n.length 3 := ⟨_, rfl⟩
  have HM := Lib.hid hM
  have hTl : T.length = 3 := by rw [hT]; rfl
  have HT := Lib.hid hT
  have m1 : min (n.length : Int) 3 = (M : Int) := by omega
  have hM3 : M ≤ 3 := by omega
  have hMn : M ≤ n.length := by omega
  clear hA hM hE hT
  go_enter Tryz.func108, Tryz.ntmps108
  go_wp2_with fail
  refine wp_scope_jumps 0 (FJ n T ANS w) (fun _ _ => 0) rfl ?_ ?_
  case refine_2 =>
    rintro a' w' ⟨rfl, k, x, ⟨hkl, hk3, hx, h128, rfl⟩, ha⟩
    rw [ha]
    generalize (fun i => a'.tmps.getD i undef) = u
    clear ha a'
    unfold frameJ
    obtain ⟨y, Y, hy1, hy2, hyT⟩ : ∃ (y : UInt8) (Y : Int), (y.toNat : Int) = Y + 32 ∧ (Y = 88 ∨ Y = 77 ∨ Y = 76) ∧ T.drop k = y :: T.drop (k + 1) := by
      rw [HT.out]
      rcases (by omega : k = 0 ∨ k = 1 ∨ k = 2) with rfl | rfl | rfl
      · exact ⟨120, 88, rfl, .inl rfl, rfl⟩
      · exact ⟨109, 77, rfl, .inr (.inl rfl), rfl⟩
      · exact ⟨108, 76, rfl, .inr (.inr rfl), rfl⟩
    have hS0 : (n.drop k)[0]? = some x := by rw [List.getElem?_drop]; exact hx
    have hS1 : 0 < (n.drop k).length := (List.getElem?_eq_some_iff.1 hS0).1
    have HCL := Lib.hid (decode_class (n.drop k) hS1)
    have hT0 : (T.drop k)[0]? = some y := by rw [hyT]; rfl
    have HDT := Lib.hid (fun w => Tryz.utf8_DecodeRuneInString_ascii ⟨(T.drop k).toArray⟩ y w hT0 (by omega))
    have hTl2 : (1 : Int) ≤ ((T.drop k).length : Int) := by rw [hyT, List.length_cons]; omega
    have hT1 : ¬ ((T.drop k).length : Int) = 0 := by omega
    have k2 : (k : Int) ≤ n.length := by omega
    have k3 : (k : Int) ≤ 3 := by omega
    have k4 : (0 : Int) ≤ k := by omega
    have HS0 := Lib.hid hS0
    have hSb : (n.drop k).length ≤ 1000000000 := by rw [List.length_drop]; omega
    clear hS0 hT0 hyT HA HM hx
    go_wp2_with fail
    generalize n.drop k = S at *
    generalize hTD : T.drop k = TD at *
    go_loopg [1] 0 (fun g tv wr => tv = .string ⟨TD.toArray⟩ ∧ wr.heap[w'.heap.size]? = some (.stringIter ⟨S.toArray⟩ 0) ∧ Below w'.heap.size w' wr)
    case atStart => exact ⟨by rw [← hTD, List.take_of_length_le (by omega)], World.iter_heap .., (Below.refl _ _).alloc (Nat.le_refl _) _⟩
    case round =>
      clear hTD
      obtain ⟨rfl, hit, hbw⟩ := hrel
      have hnx := fun ty => Lib.run_next_any_at (P := Tryz.prog) wr w'.heap.size ⟨S.toArray⟩ 0 ty hit hS1
      have hdl : Lib.decodeL S = Utf8.decode ⟨S.toArray⟩ 0 := Lib.decodeL_drop ⟨S.toArray⟩ 0
      rw [← hdl] at hnx
      have hbw2 : Below w'.heap.size w' (wr.iterAt w'.heap.size ⟨S.toArray⟩ (0 + (Lib.decodeL S).2)) := Lib.below_iterAt hbw (Nat.le_refl _) _ _
      have hcl := HCL.out
      generalize Lib.decodeL S = dd at hnx hcl hbw2
      obtain ⟨cp, wd⟩ := dd
      obtain ⟨k6, k7⟩ : (128 : Int) ≤ (cp : Int) ∧ (cp : Int) ≤ 1114111 := by
        rcases hcl with ⟨z, hz, hz7, -⟩ | ⟨h1, h2, -⟩
        · rw [HS0.out] at hz
          injection hz with hz
          subst hz
          omega
        · simp only at h1 h2
          omega
      have k8 : ¬ (cp : Int) < 128 := by omega
      have k9 : Y + 32 < (cp : Int) := by omega
      have e0 : (Y + 32 == (cp : Int)) = false := beq_eq_false_iff_ne.2 (by omega)
      have HBw := Lib.hid hbw2
      have hf1 : foldP (Y + 32) Y := by rcases hy2 with h | h | h <;> subst h <;> simp [foldP]
      have hf2 : foldP Y (Y + 32) := by rcases hy2 with h | h | h <;> subst h <;> simp [foldP]
      have HF1 := Lib.hid (fun w1 (hb : Below w'.heap.size w' w1) => sfold_any (Y + 32) Y w1 hf1 (HE.out w1 hb))
      have HF2 := Lib.hid (fun w1 (hb : Below w'.heap.size w' w1) => sfold_any Y (Y + 32) w1 hf2 (HE.out w1 hb))
      clear hf1 hf2
      clear hcl hit hbw hbw2 hdl HCL
      go_wp2_with fail
      refine (HDT.out _).mono ?_
      rintro e w1 ⟨rfl, rfl⟩
      rw [hy1]
      clear HDT
      go_wp2_with fail
      rw [Nat.zero_add] at HBw
      generalize wr.iterAt w'.heap.size ⟨S.toArray⟩ wd = W at *
      have HF1W := Lib.hid (HF1.out W HBw.out)
      have HF2W := Lib.hid (HF2.out W HBw.out)
      have e5 : (Y == Y + 32) = false := beq_eq_false_iff_ne.2 (by omega)
      have k10 : Y < (cp : Int) := by omega
      clear HF1 HF2 hnx
      refine HF1W.out.mono ?_
      rintro e w2 ⟨rfl, rfl⟩
      go_wp2_with fail
      go_loopg [13] 1 (fun g rv wz => wz = W ∧ ((g = 1 ∧ rv = .int .i32 Y) ∨ (g = 0 ∧ rv = .int .i32 (Y + 32))))
      case atStart => exact ⟨rfl, .inl ⟨rfl, rfl⟩⟩
      case round =>
        obtain ⟨rfl, ⟨rfl, rfl⟩ | ⟨rfl, rfl⟩⟩ := hrel
        · go_wp2_with fail
          refine HF2W.out.mono ?_
          rintro e w3 ⟨rfl, rfl⟩
          go_wp2
          go_roundg 0
          case measure => exact Nat.zero_lt_one
          case rel => exact ⟨rfl, .inr ⟨rfl, rfl⟩⟩
        · go_wp2
          go_ret
          exact ⟨rfl, HBw.out⟩
  go_wp2_with fail
  go_loop [5] (fun i => ∃ k : Nat, k ≤ M ∧ i = .int .i64 k ∧ Hid (foldR (n.drop k) (T.drop k) = ANS)) (fun i => M - (intOf i).toNat)
  case atStart => exact ⟨0, Nat.zero_le _, rfl, HA⟩
  case round =>
    obtain ⟨k, hk, rfl, HK⟩ := hrel
    clear HA
    rcases Nat.lt_or_ge k M with hlt | hge
    · rcases hd : n.drop k with _ | ⟨x, q⟩
      · have := drop_nil hd; omega
      obtain ⟨y, Y, hy1, hy2, hyT⟩ : ∃ (y : UInt8) (Y : Int), (y.toNat : Int) = Y + 32 ∧ (Y = 88 ∨ Y = 77 ∨ Y = 76) ∧ T.drop k = y :: T.drop (k + 1) := by
        rw [HT.out]
        rcases (by omega : k = 0 ∨ k = 1 ∨ k = 2) with rfl | rfl | rfl
        · exact ⟨120, 88, rfl, .inl rfl, rfl⟩
        · exact ⟨109, 77, rfl, .inr (.inl rfl), rfl⟩
        · exact ⟨108, 76, rfl, .inr (.inr rfl), rfl⟩
      rw [hd, hyT] at HK
      obtain ⟨hkl, hx, hq⟩ := drop_cons hd
      obtain ⟨hkT, hyi, -⟩ := drop_cons hyT
      have Hq := Lib.hid hq
      have hx9 := x.toNat_lt
      have k1 : (k : Int) < M := by omega
      have k2 : (k : Int) ≤ n.length := by omega
      have k3 : (k : Int) < n.length := by omega
      have k4 : (0 : Int) ≤ k := by omega
      have k5 : (k : Int) < 3 := by omega
      have Hd := Lib.hid hd
      have HyT := Lib.hid hyT
      have hor := or_low x (y.toNat : Int) (by omega)
      have hK := HK.out
      replace hK : (decide (x.toNat < 128) && Lib.foldEq x y && foldR q (T.drop (k + 1))) = ANS := hK
      have hfe := Lib.hid (foldEq_low x y (by omega))
      clear hd hq HM hyT HK
      rw [hy1] at hor hfe
      by_cases h128 : (128 : Int) ≤ (x.toNat : Int)
      · rw [decide_eq_false (show ¬ x.toNat < 128 by omega), Bool.false_and, Bool.false_and] at hK
        subst hK
        have hor2 := hor.2 h128
        clear hor hfe Hq
        go_wp2_with fail
        go_step3
        refine ⟨rfl, rfl, k, x, ⟨hkl, by omega, ?_, by omega, rfl⟩, rfl⟩
        have := List.getElem?_drop (xs := n) (i := k) (j := 0)
        rw [Hd.out] at this
        exact this.symm
      · have hx128 : x.toNat < 128 := by omega
        rw [decide_eq_true hx128, Bool.true_and, hfe.out hx128] at hK
        have hor2 : ¬ (128 : Int) ≤ bits .or .u8 (x.toNat : Int) (Y + 32) := fun h => h128 (hor.1 h)
        clear hor hfe
        by_cases e1 : (x.toNat : Int) = Y + 32
        · rw [decide_eq_true (.inl e1), Bool.true_and] at hK
          have HK2 := Lib.hid (show foldR (n.drop (k + 1)) (T.drop (k + 1)) = ANS by rw [Hq.out]; exact hK)
          have e2 : (Y + 32 == (x.toNat : Int)) = true := beq_iff_eq.2 e1.symm
          clear hK HE e1
          go_wp2
          go_round
          case rel => exact ⟨k + 1, hlt, by go_num, HK2⟩
          case measure => simp [intOf]; omega
        · have e2 : (Y + 32 == (x.toNat : Int)) = false := beq_eq_false_iff_ne.2 (Ne.symm e1)
          by_cases e3 : (65 : Int) ≤ (x.toNat : Int) ∧ (x.toNat : Int) ≤ 90 ∧ (x.toNat : Int) + 32 = Y + 32
          · obtain ⟨a1, a2, a3⟩ := e3
            have hxz : (x.toNat : Int) = Y := by omega
            rw [decide_eq_true (.inr ⟨a1, a2, a3⟩), Bool.true_and] at hK
            have HK2 := Lib.hid (show foldR (n.drop (k + 1)) (T.drop (k + 1)) = ANS by rw [Hq.out]; exact hK)
            clear hK HE a1 a2 a3 e1 e2
            rcases hy2 with rfl | rfl | rfl
            all_goals
              go_wp2
              go_round
              case rel => exact ⟨k + 1, hlt, by go_num, HK2⟩
              case measure => simp [intOf]; omega
          · rw [decide_eq_false (fun h => h.elim e1 e3), Bool.false_and] at hK
            subst hK
            clear HE HyT Hd Hq
            by_cases a1 : Y + 32 < (x.toNat : Int)
            · have a2 : ¬ Y + 32 ≤ 90 := by omega
              have a3 : (65 : Int) ≤ Y + 32 := by omega
              clear e1 e3
              go_wp2
              go_ret
              exact ⟨rfl, Below.refl _ _⟩
            · by_cases a2 : (65 : Int) ≤ (x.toNat : Int) <;> by_cases a3 : (x.toNat : Int) ≤ 90
              · have a4 : (Y + 32 == (x.toNat : Int) + 97 - 65) = false := beq_eq_false_iff_ne.2 (by omega)
                have a5 : (Y + 32 == (x.toNat : Int) + 32) = false := beq_eq_false_iff_ne.2 (by omega)
                clear e1 e3
                go_wp2
                go_ret
                exact ⟨rfl, Below.refl _ _⟩
              all_goals
                clear e1 e3
                go_wp2
                go_ret
                exact ⟨rfl, Below.refl _ _⟩
    · obtain rfl : k = M := by omega
      have hF := foldR_end n k HM.out
      rw [HT.out] at HK
      rw [HK.out] at hF
      have e3 : decide ((n.length : Int) = 3) = ANS := by rw [hF, decide_eq_decide]; omega
      clear hF HK HE HM HT
      go_wp2
      go_ret
      exact ⟨retb e3, Below.refl _ _⟩
theorem xfold_any (n : List UInt8) (w : World) (hn : n.length ≤ 1000000000) (hE : XEnv w) : Calls Tryz.prog 108 #[.string ⟨n.toArray⟩, .string ⟨#[120, 109, 108]⟩] w (Ret (.bool (foldX n)) w) := by
  rw [foldX_R]
  exact xfold_gen n [120, 109, 108] w rfl hn hE
end Go.Proofs.YtjkiehmjffgnlaaGreatDoor

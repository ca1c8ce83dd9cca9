import Derived.Test.YtjkiehmjffgnlaaGreatDoorXmlZ2
import Derived.Test.YtjkiehmjffgnlaaGreatDoorXmlZ6
import Derived.Shelf.Strconv.ErrVarAll
namespace Go.Proofs.YtjkiehmjffgnlaaGreatDoor
set_option linter.unusedVariables false
set_option linter.unusedSimpArgs false
open Go.RowKit

theorem or32x (x : UInt8) : bits .or .u8 (x.toNat : Int) 32 = ((x ||| 32).toNat : Int) := by
  have := u8_or_nat x.toNat 32 x.toNat_lt (by omega)
  rw [UInt8.toNat_or]
  exact this
set_option maxHeartbeats 400000 in
set_option maxRecDepth 100000 in
set_option linter.unusedSimpArgs false in
theorem xlower_any (c : UInt8) (w : World) : Calls Tryz.prog 164 #[.int .u8 c.toNat] w (Same0 (.int .u8 ((c ||| 32).toNat : Int)) w) := by
  have hor := or32x c
  go_enter Tryz.func164, Tryz.ntmps164
  go_wp2
  go_ret
  exact ⟨rfl, rfl⟩
/-- a byte asz a digit: a digit, a letter of the base, another letter, or something else. -/
theorem digK (B : Nat) (hB : B = 10 ∨ B = 16) (x : UInt8) : (48 ≤ (x.toNat : Int) ∧ (x.toNat : Int) ≤ 57 ∧ digV B x = some (x.toNat - 48)) ∨
    (¬ (48 ≤ (x.toNat : Int) ∧ (x.toNat : Int) ≤ 57) ∧ 97 ≤ ((x ||| 32).toNat : Int) ∧ ((x ||| 32).toNat : Int) ≤ 86 + B ∧ digV B x = some ((x ||| 32).toNat - 87) ∧ ¬ (x.toNat : Int) = 95) ∨
    (¬ (48 ≤ (x.toNat : Int) ∧ (x.toNat : Int) ≤ 57) ∧ 86 + B < ((x ||| 32).toNat : Int) ∧ ((x ||| 32).toNat : Int) ≤ 122 ∧ digV B x = none ∧ ¬ (x.toNat : Int) = 95) ∨
    (¬ (48 ≤ (x.toNat : Int) ∧ (x.toNat : Int) ≤ 57) ∧ ¬ (97 ≤ ((x ||| 32).toNat : Int) ∧ ((x ||| 32).toNat : Int) ≤ 122) ∧ digV B x = none) := by
  have h2 : (48 ≤ x.toNat ∧ x.toNat ≤ 57 ∧ digV B x = some (x.toNat - 48)) ∨
    (¬ (48 ≤ x.toNat ∧ x.toNat ≤ 57) ∧ 97 ≤ (x ||| 32).toNat ∧ (x ||| 32).toNat ≤ 86 + B ∧ digV B x = some ((x ||| 32).toNat - 87) ∧ ¬ x.toNat = 95) ∨
    (¬ (48 ≤ x.toNat ∧ x.toNat ≤ 57) ∧ 86 + B < (x ||| 32).toNat ∧ (x ||| 32).toNat ≤ 122 ∧ digV B x = none ∧ ¬ x.toNat = 95) ∨
    (¬ (48 ≤ x.toNat ∧ x.toNat ≤ 57) ∧ ¬ (97 ≤ (x ||| 32).toNat ∧ (x ||| 32).toNat ≤ 122) ∧ digV B x = none) := by
    rcases hB with rfl | rfl
    · exact of_decide_eq_true (u8_allX (fun x => decide ((48 ≤ x.toNat ∧ x.toNat ≤ 57 ∧ digV 10 x = some (x.toNat - 48)) ∨
        (¬ (48 ≤ x.toNat ∧ x.toNat ≤ 57) ∧ 97 ≤ (x ||| 32).toNat ∧ (x ||| 32).toNat ≤ 86 + 10 ∧ digV 10 x = some ((x ||| 32).toNat - 87) ∧ ¬ x.toNat = 95) ∨
        (¬ (48 ≤ x.toNat ∧ x.toNat ≤ 57) ∧ 86 + 10 < (x ||| 32).toNat ∧ (x ||| 32).toNat ≤ 122 ∧ digV 10 x = none ∧ ¬ x.toNat = 95) ∨
        (¬ (48 ≤ x.toNat ∧ x.toNat ≤ 57) ∧ ¬ (97 ≤ (x ||| 32).toNat ∧ (x ||| 32).toNat ≤ 122) ∧ digV 10 x = none))) (by decide +kernel) x)
    · exact of_decide_eq_true (u8_allX (fun x => decide ((48 ≤ x.toNat ∧ x.toNat ≤ 57 ∧ digV 16 x = some (x.toNat - 48)) ∨
        (¬ (48 ≤ x.toNat ∧ x.toNat ≤ 57) ∧ 97 ≤ (x ||| 32).toNat ∧ (x ||| 32).toNat ≤ 86 + 16 ∧ digV 16 x = some ((x ||| 32).toNat - 87) ∧ ¬ x.toNat = 95) ∨
        (¬ (48 ≤ x.toNat ∧ x.toNat ≤ 57) ∧ 86 + 16 < (x ||| 32).toNat ∧ (x ||| 32).toNat ≤ 122 ∧ digV 16 x = none ∧ ¬ x.toNat = 95) ∨
        (¬ (48 ≤ x.toNat ∧ x.toNat ≤ 57) ∧ ¬ (97 ≤ (x ||| 32).toNat ∧ (x ||| 32).toNat ≤ 122) ∧ digV 16 x = none))) (by decide +kernel) x)
  rcases h2 with ⟨a, b, c⟩ | ⟨a, b, c, d, e⟩ | ⟨a, b, c, d, e⟩ | ⟨a, b, c⟩
  · exact .inl ⟨by omega, by omega, c⟩
  · exact .inr (.inl ⟨by omega, by omega, by omega, d, by omega⟩)
  · exact .inr (.inr (.inl ⟨by omega, by omega, by omega, d, by omega⟩))
  · exact .inr (.inr (.inr ⟨by omega, by omega, c⟩))
def numQ (B : Nat) (d : List UInt8) : Option Nat := if d = [] then none else numX B 0 d
def serrV (k : Int) : Value := .iface 241 (.int .i64 k)
def PUint (B : Nat) (d : List UInt8) (w : World) (e : Ending) (w' : World) : Prop := Below w.heap.size w w' ∧ ∃ (v : Int) (er : Value), e = .returned (.tuple #[.int .u64 v, er]) ∧ 0 ≤ v ∧ v ≤ 18446744073709551615 ∧
  (er = .nilIface ∨ er = serrV 1 ∨ er = serrV 2) ∧ (d.length ≤ 9 → match numQ B d with | some n => v = (n : Int) ∧ er = .nilIface | none => er ≠ .nilIface)
theorem puint_ok {B : Nat} {d : List UInt8} {w w' : World} {v : Int} (hb : Below w.heap.size w w') (h0 : 0 ≤ v) (h1 : v ≤ 18446744073709551615) (h : d.length ≤ 9 → numQ B d = some v.toNat) : PUint B d w (.returned (.tuple #[.int .u64 v, .nilIface])) w' :=
  ⟨hb, v, _, rfl, h0, h1, .inl rfl, fun hl => by rw [h hl]; exact ⟨by omega, rfl⟩⟩
theorem puint_no {B : Nat} {d : List UInt8} {w w' : World} {v k : Int} (hb : Below w.heap.size w w') (h0 : 0 ≤ v) (h1 : v ≤ 18446744073709551615) (hk : k = 1 ∨ k = 2) (h : d.length ≤ 9 → numQ B d = none) : PUint B d w (.returned (.tuple #[.int .u64 v, .iface 241 (.int .i64 k)])) w' :=
  ⟨hb, v, _, rfl, h0, h1, .inr (by rcases hk with rfl | rfl; exact .inl rfl; exact .inr rfl), fun hl => by rw [h hl]; intro e; cases e⟩
theorem numX_cons {B n v : Nat} {x : UInt8} {q : List UInt8} (h : digV B x = some v) : numX B n (x :: q) = numX B (n * B + v) q := by
  show (match digV B x with | none => none | some d => numX B (n * B + d) q) = _
  rw [h]
theorem numX_bad {B n : Nat} {x : UInt8} {q : List UInt8} (h : digV B x = none) : numX B n (x :: q) = none := by
  show (match digV B x with | none => none | some d => numX B (n * B + d) q) = _
  rw [h]
def PUIn (B : Nat) (h : List UInt8) (a : Int) (k : Nat) : Prop := 0 ≤ a ∧ a ≤ 18446744073709551615 ∧ (h.length ≤ 9 → numX B 0 h = numX B a.toNat (h.drop k) ∧ a < (B : Int) ^ k)
theorem PUIn.step {B : Nat} {h q : List UInt8} {a b : Int} {k v : Nat} {x : UInt8} (H : PUIn B h a k) (hd : h.drop k = x :: q) (hq : h.drop (k + 1) = q) (hv : digV B x = some v) (hB : v < B) (hb : b = a * B + v) (hb2 : b ≤ 18446744073709551615) : PUIn B h b (k + 1) := by
  obtain ⟨h0, h1, h2⟩ := H
  have hm : 0 ≤ a * (B : Int) := Int.mul_nonneg h0 (by omega)
  refine ⟨by omega, hb2, fun hl => ?_⟩
  obtain ⟨h3, h4⟩ := h2 hl
  rw [hd, numX_cons hv] at h3
  refine ⟨by rw [h3, hq, hb]; congr 1; rw [Int.toNat_add hm (by omega), Int.toNat_mul h0 (by omega)]; rfl, ?_⟩
  have h5 : (a + 1) * (B : Int) ≤ (B : Int) ^ k * B := Int.mul_le_mul_of_nonneg_right (by omega) (by omega)
  rw [Int.pow_succ]
  rw [Int.add_mul] at h5
  omega
theorem PUIn.bad {B : Nat} {h q : List UInt8} {a : Int} {k : Nat} {x : UInt8} (H : PUIn B h a k) (hd : h.drop k = x :: q) (hv : digV B x = none) (hne : h ≠ []) : h.length ≤ 9 → numQ B h = none := fun hl => by
  have h3 := (H.2.2 hl).1
  rw [hd, numX_bad hv] at h3
  unfold numQ
  rw [if_neg hne]
  exact h3
theorem PUIn.big {B : Nat} {h : List UInt8} {a : Int} {k : Nat} (H : PUIn B h a k) (hk : k < h.length) (hB1 : 1 ≤ B) (hB : B ≤ 16) (ha : 4294967296 ≤ a) : h.length ≤ 9 → numQ B h = none := fun hl => by
  exfalso
  have h1 := (H.2.2 hl).2
  have h2 : (B : Int) ^ k ≤ 16 ^ k := by
    have : B ^ k ≤ 16 ^ k := Nat.pow_le_pow_left hB k
    exact_mod_cast this
  have h3 : 16 ^ k ≤ 16 ^ 8 := Nat.pow_le_pow_right (by omega) (by omega)
  have h4 : ((16 : Int)) ^ k ≤ 16 ^ 8 := by exact_mod_cast h3
  omega
set_option maxHeartbeats 8000000 in
set_option maxRecDepth 100000 in
set_option linter.unusedSimpArgs false in
theorem puint10_any (h : List UInt8) (hs : h.length ≤ 1000000000) (w : World) :
    Calls Tryz.prog 152 #[.string ⟨h.toArray⟩, .int .i64 10, .int .i64 64] w (PUint 10 h w) := by
  obtain ⟨E, hEE⟩ : ∃ E, E = PUint 10 h w := ⟨_, rfl⟩
  rw [← hEE]
  have HEE := Lib.hid hEE
  clear hEE
  by_cases hne : h = []
  · subst hne
    go_enter Tryz.func152, Tryz.ntmps152
    go_wp2
    rw [HEE.out]
    exact puint_no (Below.refl _ _) (by omega) (by omega) (.inr rfl) fun _ => rfl
  have hcv := conv_string w h
  have hb0 := bytes_below w h
  have hw0 := bytes_bw w h
  have hmv : IntKind.u64.wrap (IntKind.u64.wrap 18446744073709551616 - 1) = 18446744073709551615 := by
    rw [IntKind.wrap_u64, IntKind.wrap_u64]
    decide
  generalize grownCap w h.length 0 5 = cap at *
  generalize Lib.bytesWorld w 5 ⟨h.toArray⟩ = wb at *
  have hem : h.isEmpty = false := by cases h with | nil => exact absurd rfl hne | cons => rfl
  have HNE := Lib.hid hne
  have HB0 := Lib.hid hb0
  clear hne hb0
  go_enter Tryz.func152, Tryz.ntmps152
  go_wp2
  have hw1 := Lib.hid hw0
  clear hcv hw0
  go_loop [12, 13, 101] (fun u n i => ∃ (k : Nat) (a : Int), u = .bool false ∧ n = .int .u64 a ∧ i = .int .i64 k ∧ k ≤ h.length ∧ Hid (PUIn 10 h a k)) (fun _ _ i => h.length - (intOf i).toNat)
  case atStart => exact ⟨0, 0, rfl, rfl, rfl, Nat.zero_le _, ⟨by omega, by omega, fun _ => ⟨rfl, by decide⟩⟩⟩
  case round =>
    obtain ⟨k, a, rfl, rfl, rfl, hk, HA⟩ := hrel
    have ha0 := HA.out.1
    have ha1 := HA.out.2.1
    rcases hd : h.drop k with _ | ⟨x, q⟩
    · have hk2 : k = h.length := by have := drop_nil hd; omega
      have HD := Lib.hid hd
      clear hd
      subst hk2
      go_wp2
      rw [HEE.out]
      refine puint_ok HB0.out ha0 ha1 fun hl => ?_
      have h3 := (HA.out.2.2 hl).1
      rw [HD.out] at h3
      unfold numQ
      rw [if_neg HNE.out]
      exact h3
    · obtain ⟨hlt, hx, hq⟩ := drop_cons hd
      have HD := Lib.hid hd
      have HQ := Lib.hid hq
      have hxo : h[k]? = some x := by have := congrArg (fun l => l[0]?) hd; simpa using this
      have hcell := (hw1.out.2 k x hxo).1
      have hki : (k : Int) < h.length := by omega
      have HLo := Lib.hid (fun w => xlower_any x w)
      have hkind := digK 10 (.inl rfl) x
      have HSTEP := Lib.hid (fun (v : Nat) (b : Int) => HA.out.step (v := v) (b := b) hd hq)
      have HBAD := Lib.hid (fun hv => HA.out.bad hd hv HNE.out)
      have HBIG := Lib.hid (HA.out.big hlt (by omega) (by omega))
      generalize hy : ((x ||| 32).toNat : Int) = y at *
      have hy0 : 0 ≤ y := by omega
      have hy255 : y ≤ 255 := by have := (x ||| 32).toNat_lt; omega
      have HY := Lib.hid hy
      clear hd hq hx HA hw1 hy
      clear hxo
      rcases hkind with ⟨a1, a2, a3⟩ | ⟨a1, a2, a3, a4, a5⟩ | ⟨a1, a2, a3, a4, a5⟩ | ⟨a1, a2, a3⟩
      · have H3 := Lib.hid a3
        clear a3
        have b1 : ((x.toNat : Int) == 95) = false := beq_eq_false_iff_ne.2 (by omega)
        by_cases hc : (1844674407370955162 : Int) ≤ a
        · go_wp2_with fail
          all_goals (rw [HEE.out]; exact puint_no HB0.out (by omega) (by omega) (.inl rfl) (HBIG.out (by omega)))
        · by_cases ov : a * 10 + (x.toNat - 48) ≤ 18446744073709551615
          · go_wp2_with fail
            all_goals
              go_round
              case rel => exact ⟨k + 1, _, rfl, rfl, by go_num, by omega, HSTEP.out _ _ H3.out (by have := HY.out; omega) (by have := HY.out; omega) (by have := HY.out; omega)⟩
              case measure => simp [intOf]; omega
          · by_cases hcut : (1844674407370955162 : Int) = 1152921504606846976
            · exfalso
              omega
            · have hwr : IntKind.u64.wrap (a * 10 + (x.toNat - 48)) = a * 10 + (x.toNat - 48) - 18446744073709551616 := by rw [IntKind.wrap_u64]; omega
              go_wp2_with fail
              all_goals (rw [HEE.out]; exact puint_no HB0.out (by omega) (by omega) (.inl rfl) (HBIG.out (by omega)))
      · by_cases hL : (97 : Int) ≤ 86 + ((10 : Nat) : Int)
        · have H3 := Lib.hid a4
          have b1 : ((x.toNat : Int) == 95) = false := beq_eq_false_iff_ne.2 a5
          clear a4 a5
          by_cases hc : (1844674407370955162 : Int) ≤ a
          · go_wp2_with (refine (HLo.out _).mono ?_; rintro e w1 ⟨rfl, rfl⟩)
            all_goals (rw [HEE.out]; exact puint_no HB0.out (by omega) (by omega) (.inl rfl) (HBIG.out (by omega)))
          · by_cases ov : a * 10 + (y - 97 + 10) ≤ 18446744073709551615
            · go_wp2_with (refine (HLo.out _).mono ?_; rintro e w1 ⟨rfl, rfl⟩)
              all_goals
                go_round
                case rel => exact ⟨k + 1, _, rfl, rfl, by go_num, by omega, HSTEP.out _ _ H3.out (by have := HY.out; omega) (by have := HY.out; omega) (by have := HY.out; omega)⟩
                case measure => simp [intOf]; omega
            · by_cases hcut : (1844674407370955162 : Int) = 1152921504606846976
              · exfalso
                omega
              · have hwr : IntKind.u64.wrap (a * 10 + (y - 97 + 10)) = a * 10 + (y - 97 + 10) - 18446744073709551616 := by rw [IntKind.wrap_u64]; omega
                go_wp2_with (refine (HLo.out _).mono ?_; rintro e w1 ⟨rfl, rfl⟩)
                all_goals (rw [HEE.out]; exact puint_no HB0.out (by omega) (by omega) (.inl rfl) (HBIG.out (by omega)))
        · exfalso
          omega
      · have H4 := Lib.hid a4
        have b1 : ((x.toNat : Int) == 95) = false := beq_eq_false_iff_ne.2 a5
        clear a4 a5
        go_wp2_with (refine (HLo.out _).mono ?_; rintro e w1 ⟨rfl, rfl⟩)
        all_goals (rw [HEE.out]; exact puint_no HB0.out (by omega) (by omega) (.inr rfl) (HBAD.out H4.out))
      · have H4 := Lib.hid a3
        clear a3
        by_cases a5 : (x.toNat : Int) = 95
        · simp only [a5] at HLo a1
          go_wp2_with (refine (HLo.out _).mono ?_; rintro e w1 ⟨rfl, rfl⟩)
          all_goals (rw [HEE.out]; exact puint_no HB0.out (by omega) (by omega) (.inr rfl) (HBAD.out H4.out))
        · have b1 : ((x.toNat : Int) == 95) = false := beq_eq_false_iff_ne.2 a5
          go_wp2_with (refine (HLo.out _).mono ?_; rintro e w1 ⟨rfl, rfl⟩)
          all_goals (rw [HEE.out]; exact puint_no HB0.out (by omega) (by omega) (.inr rfl) (HBAD.out H4.out))
set_option maxHeartbeats 8000000 in
set_option maxRecDepth 100000 in
set_option linter.unusedSimpArgs false in
theorem puint16_any (h : List UInt8) (hs : h.length ≤ 1000000000) (w : World) :
    Calls Tryz.prog 152 #[.string ⟨h.toArray⟩, .int .i64 16, .int .i64 64] w (PUint 16 h w) := by
  obtain ⟨E, hEE⟩ : ∃ E, E = PUint 16 h w := ⟨_, rfl⟩
  rw [← hEE]
  have HEE := Lib.hid hEE
  clear hEE
  by_cases hne : h = []
  · subst hne
    go_enter Tryz.func152, Tryz.ntmps152
    go_wp2
    rw [HEE.out]
    exact puint_no (Below.refl _ _) (by omega) (by omega) (.inr rfl) fun _ => rfl
  have hcv := conv_string w h
  have hb0 := bytes_below w h
  have hw0 := bytes_bw w h
  have hmv : IntKind.u64.wrap (IntKind.u64.wrap 18446744073709551616 - 1) = 18446744073709551615 := by
    rw [IntKind.wrap_u64, IntKind.wrap_u64]
    decide
  generalize grownCap w h.length 0 5 = cap at *
  generalize Lib.bytesWorld w 5 ⟨h.toArray⟩ = wb at *
  have hem : h.isEmpty = false := by cases h with | nil => exact absurd rfl hne | cons => rfl
  have HNE := Lib.hid hne
  have HB0 := Lib.hid hb0
  clear hne hb0
  go_enter Tryz.func152, Tryz.ntmps152
  go_wp2
  have hw1 := Lib.hid hw0
  clear hcv hw0
  go_loop [12, 13, 101] (fun u n i => ∃ (k : Nat) (a : Int), u = .bool false ∧ n = .int .u64 a ∧ i = .int .i64 k ∧ k ≤ h.length ∧ Hid (PUIn 16 h a k)) (fun _ _ i => h.length - (intOf i).toNat)
  case atStart => exact ⟨0, 0, rfl, rfl, rfl, Nat.zero_le _, ⟨by omega, by omega, fun _ => ⟨rfl, by decide⟩⟩⟩
  case round =>
    obtain ⟨k, a, rfl, rfl, rfl, hk, HA⟩ := hrel
    have ha0 := HA.out.1
    have ha1 := HA.out.2.1
    rcases hd : h.drop k with _ | ⟨x, q⟩
    · have hk2 : k = h.length := by have := drop_nil hd; omega
      have HD := Lib.hid hd
      clear hd
      subst hk2
      go_wp2
      rw [HEE.out]
      refine puint_ok HB0.out ha0 ha1 fun hl => ?_
      have h3 := (HA.out.2.2 hl).1
      rw [HD.out] at h3
      unfold numQ
      rw [if_neg HNE.out]
      exact h3
    · obtain ⟨hlt, hx, hq⟩ := drop_cons hd
      have HD := Lib.hid hd
      have HQ := Lib.hid hq
      have hxo : h[k]? = some x := by have := congrArg (fun l => l[0]?) hd; simpa using this
      have hcell := (hw1.out.2 k x hxo).1
      have hki : (k : Int) < h.length := by omega
      have HLo := Lib.hid (fun w => xlower_any x w)
      have hkind := digK 16 (.inr rfl) x
      have HSTEP := Lib.hid (fun (v : Nat) (b : Int) => HA.out.step (v := v) (b := b) hd hq)
      have HBAD := Lib.hid (fun hv => HA.out.bad hd hv HNE.out)
      have HBIG := Lib.hid (HA.out.big hlt (by omega) (by omega))
      generalize hy : ((x ||| 32).toNat : Int) = y at *
      have hy0 : 0 ≤ y := by omega
      have hy255 : y ≤ 255 := by have := (x ||| 32).toNat_lt; omega
      have HY := Lib.hid hy
      clear hd hq hx HA hw1 hy
      clear hxo
      rcases hkind with ⟨a1, a2, a3⟩ | ⟨a1, a2, a3, a4, a5⟩ | ⟨a1, a2, a3, a4, a5⟩ | ⟨a1, a2, a3⟩
      · have H3 := Lib.hid a3
        clear a3
        have b1 : ((x.toNat : Int) == 95) = false := beq_eq_false_iff_ne.2 (by omega)
        by_cases hc : (1152921504606846976 : Int) ≤ a
        · go_wp2_with fail
          all_goals (rw [HEE.out]; exact puint_no HB0.out (by omega) (by omega) (.inl rfl) (HBIG.out (by omega)))
        · by_cases ov : a * 16 + (x.toNat - 48) ≤ 18446744073709551615
          · go_wp2_with fail
            all_goals
              go_round
              case rel => exact ⟨k + 1, _, rfl, rfl, by go_num, by omega, HSTEP.out _ _ H3.out (by have := HY.out; omega) (by have := HY.out; omega) (by have := HY.out; omega)⟩
              case measure => simp [intOf]; omega
          · by_cases hcut : (1152921504606846976 : Int) = 1152921504606846976
            · exfalso
              omega
            · have hwr : IntKind.u64.wrap (a * 16 + (x.toNat - 48)) = a * 16 + (x.toNat - 48) - 18446744073709551616 := by rw [IntKind.wrap_u64]; omega
              go_wp2_with fail
              all_goals (rw [HEE.out]; exact puint_no HB0.out (by omega) (by omega) (.inl rfl) (HBIG.out (by omega)))
      · by_cases hL : (97 : Int) ≤ 86 + ((16 : Nat) : Int)
        · have H3 := Lib.hid a4
          have b1 : ((x.toNat : Int) == 95) = false := beq_eq_false_iff_ne.2 a5
          clear a4 a5
          by_cases hc : (1152921504606846976 : Int) ≤ a
          · go_wp2_with (refine (HLo.out _).mono ?_; rintro e w1 ⟨rfl, rfl⟩)
            all_goals (rw [HEE.out]; exact puint_no HB0.out (by omega) (by omega) (.inl rfl) (HBIG.out (by omega)))
          · by_cases ov : a * 16 + (y - 97 + 10) ≤ 18446744073709551615
            · go_wp2_with (refine (HLo.out _).mono ?_; rintro e w1 ⟨rfl, rfl⟩)
              all_goals
                go_round
                case rel => exact ⟨k + 1, _, rfl, rfl, by go_num, by omega, HSTEP.out _ _ H3.out (by have := HY.out; omega) (by have := HY.out; omega) (by have := HY.out; omega)⟩
                case measure => simp [intOf]; omega
            · by_cases hcut : (1152921504606846976 : Int) = 1152921504606846976
              · exfalso
                omega
              · have hwr : IntKind.u64.wrap (a * 16 + (y - 97 + 10)) = a * 16 + (y - 97 + 10) - 18446744073709551616 := by rw [IntKind.wrap_u64]; omega
                go_wp2_with (refine (HLo.out _).mono ?_; rintro e w1 ⟨rfl, rfl⟩)
                all_goals (rw [HEE.out]; exact puint_no HB0.out (by omega) (by omega) (.inl rfl) (HBIG.out (by omega)))
        · exfalso
          omega
      · have H4 := Lib.hid a4
        have b1 : ((x.toNat : Int) == 95) = false := beq_eq_false_iff_ne.2 a5
        clear a4 a5
        go_wp2_with (refine (HLo.out _).mono ?_; rintro e w1 ⟨rfl, rfl⟩)
        all_goals (rw [HEE.out]; exact puint_no HB0.out (by omega) (by omega) (.inr rfl) (HBAD.out H4.out))
      · have H4 := Lib.hid a3
        clear a3
        by_cases a5 : (x.toNat : Int) = 95
        · simp only [a5] at HLo a1
          go_wp2_with (refine (HLo.out _).mono ?_; rintro e w1 ⟨rfl, rfl⟩)
          all_goals (rw [HEE.out]; exact puint_no HB0.out (by omega) (by omega) (.inr rfl) (HBAD.out H4.out))
        · have b1 : ((x.toNat : Int) == 95) = false := beq_eq_false_iff_ne.2 a5
          go_wp2_with (refine (HLo.out _).mono ?_; rintro e w1 ⟨rfl, rfl⟩)
          all_goals (rw [HEE.out]; exact puint_no HB0.out (by omega) (by omega) (.inr rfl) (HBAD.out H4.out))
end Go.Proofs.YtjkiehmjffgnlaaGreatDoor
namespace Go.Proofs.YtjkiehmjffgnlaaGreatDoor
set_option linter.unusedVariables false
set_option linter.unusedSimpArgs false
open Go.RowKit

def PUintE (B : Nat) (d : List UInt8) (w : World) (e : Ending) (w' : World) : Prop := Below w.heap.size w w' ∧ ∃ (v : Int) (er : Value), e = .returned (.tuple #[.int .u64 v, er]) ∧ 0 ≤ v ∧ v ≤ 18446744073709551615 ∧
  (er = .nilIface ∨ ∃ t p, er = .iface t p) ∧ (d.length ≤ 9 → match numQ B d with | some n => v = (n : Int) ∧ er = .nilIface | none => er ≠ .nilIface)
set_option maxHeartbeats 1000000 in
set_option maxRecDepth 100000 in
set_option linter.unusedSimpArgs false in
theorem xpuint10 (h : List UInt8) (hs : h.length ≤ 1000000000) (w : World) (hE : XEnv w) :
    Calls Tryz.prog 135 #[.string ⟨h.toArray⟩, .int .i64 10, .int .i64 64] w (PUintE 10 h w) := by
  have HU := Lib.hid (puint10_any h hs w)
  have HE1 := Lib.hid (fun w1 (hb : Below w.heap.size w w1) => show ∃ t p, w1.cell? ⟨9, 0, none⟩ = some (.iface t p) from (by
    obtain ⟨t, p, h⟩ := (hE.below hb).esyn
    exact ⟨t, p, by have h0 := World.var?_cell (show Tryz.prog.globalNamed "strconv.ErrSyntax" = some 9 by kernel_rfl) h 0; simpa using h0⟩))
  have HE2 := Lib.hid (fun w1 (hb : Below w.heap.size w w1) => show ∃ t p, w1.cell? ⟨10, 0, none⟩ = some (.iface t p) from (by
    obtain ⟨t, p, h⟩ := (hE.below hb).eran
    exact ⟨t, p, by have h0 := World.var?_cell (show Tryz.prog.globalNamed "strconv.ErrRange" = some 10 by kernel_rfl) h 0; simpa using h0⟩))
  obtain ⟨E, hEE⟩ : ∃ E, E = PUintE 10 h w := ⟨_, rfl⟩
  rw [← hEE]
  have HEE := Lib.hid hEE
  clear hEE hE
  go_enter Tryz.func135, Tryz.ntmps135
  go_wp2_with fail
  refine HU.out.mono ?_
  rintro e w1 ⟨hb, v, er, rfl, h0, h1, hk, hx⟩
  have HB := Lib.hid hb
  rcases hk with rfl | rfl | rfl
  · have HP := Lib.hid (show PUintE 10 h w (.returned (.tuple #[.int .u64 v, .nilIface])) w1 from ⟨hb, v, _, rfl, h0, h1, .inl rfl, hx⟩)
    clear hb hx HU HB
    go_wp2
    rw [HEE.out]
    exact HP.out
  · obtain ⟨t, p, hc⟩ := HE2.out w1 HB.out
    have HP := Lib.hid (fun w2 N (hb2 : Below w1.heap.size w1 w2) => show PUintE 10 h w (.returned (.tuple #[.int .u64 v, .iface 243 (.pointer (some ⟨N, 0, none⟩))])) w2 from ⟨hb.trans (hb2.mono hb.size), v, _, rfl, h0, h1, .inr ⟨_, _, rfl⟩, fun hl => by
      have := hx hl
      revert this
      cases numQ 10 h
      · intro _ e; cases e
      · rintro ⟨_, e⟩; cases e⟩)
    clear hb hx HU
    unfold serrV
    have HC := Lib.hid (Tryz.strconv_toError_range ⟨#[80, 97, 114, 115, 101, 85, 105, 110, 116]⟩ ⟨h.toArray⟩ 10 64 _ w1 (by show h.length ≤ _; omega) hc (.inr ⟨t, p, rfl⟩))
    clear hc HE1 HE2
    go_wp2_with fail
    refine HC.out.mono ?_
    rintro e w2 ⟨N, rfl, -, -, hb2⟩
    have HB2 := Lib.hid hb2
    clear hb2 HC
    go_wp2
    rw [HEE.out]
    exact HP.out _ _ HB2.out
  · obtain ⟨t, p, hc⟩ := HE1.out w1 HB.out
    have HP := Lib.hid (fun w2 N (hb2 : Below w1.heap.size w1 w2) => show PUintE 10 h w (.returned (.tuple #[.int .u64 v, .iface 243 (.pointer (some ⟨N, 0, none⟩))])) w2 from ⟨hb.trans (hb2.mono hb.size), v, _, rfl, h0, h1, .inr ⟨_, _, rfl⟩, fun hl => by
      have := hx hl
      revert this
      cases numQ 10 h
      · intro _ e; cases e
      · rintro ⟨_, e⟩; cases e⟩)
    clear hb hx HU
    unfold serrV
    have HC := Lib.hid (Tryz.strconv_toError_syntax ⟨#[80, 97, 114, 115, 101, 85, 105, 110, 116]⟩ ⟨h.toArray⟩ 10 64 _ w1 (by show h.length ≤ _; omega) hc (.inr ⟨t, p, rfl⟩))
    clear hc HE1 HE2
    go_wp2_with fail
    refine HC.out.mono ?_
    rintro e w2 ⟨N, rfl, -, -, hb2⟩
    have HB2 := Lib.hid hb2
    clear hb2 HC
    go_wp2
    rw [HEE.out]
    exact HP.out _ _ HB2.out
set_option maxHeartbeats 1000000 in
set_option maxRecDepth 100000 in
set_option linter.unusedSimpArgs false in
theorem xpuint16 (h : List UInt8) (hs : h.length ≤ 1000000000) (w : World) (hE : XEnv w) :
    Calls Tryz.prog 135 #[.string ⟨h.toArray⟩, .int .i64 16, .int .i64 64] w (PUintE 16 h w) := by
  have HU := Lib.hid (puint16_any h hs w)
  have HE1 := Lib.hid (fun w1 (hb : Below w.heap.size w w1) => show ∃ t p, w1.cell? ⟨9, 0, none⟩ = some (.iface t p) from (by
    obtain ⟨t, p, h⟩ := (hE.below hb).esyn
    exact ⟨t, p, by have h0 := World.var?_cell (show Tryz.prog.globalNamed "strconv.ErrSyntax" = some 9 by kernel_rfl) h 0; simpa using h0⟩))
  have HE2 := Lib.hid (fun w1 (hb : Below w.heap.size w w1) => show ∃ t p, w1.cell? ⟨10, 0, none⟩ = some (.iface t p) from (by
    obtain ⟨t, p, h⟩ := (hE.below hb).eran
    exact ⟨t, p, by have h0 := World.var?_cell (show Tryz.prog.globalNamed "strconv.ErrRange" = some 10 by kernel_rfl) h 0; simpa using h0⟩))
  obtain ⟨E, hEE⟩ : ∃ E, E = PUintE 16 h w := ⟨_, rfl⟩
  rw [← hEE]
  have HEE := Lib.hid hEE
  clear hEE hE
  go_enter Tryz.func135, Tryz.ntmps135
  go_wp2_with fail
  refine HU.out.mono ?_
  rintro e w1 ⟨hb, v, er, rfl, h0, h1, hk, hx⟩
  have HB := Lib.hid hb
  rcases hk with rfl | rfl | rfl
  · have HP := Lib.hid (show PUintE 16 h w (.returned (.tuple #[.int .u64 v, .nilIface])) w1 from ⟨hb, v, _, rfl, h0, h1, .inl rfl, hx⟩)
    clear hb hx HU HB
    go_wp2
    rw [HEE.out]
    exact HP.out
  · obtain ⟨t, p, hc⟩ := HE2.out w1 HB.out
    have HP := Lib.hid (fun w2 N (hb2 : Below w1.heap.size w1 w2) => show PUintE 16 h w (.returned (.tuple #[.int .u64 v, .iface 243 (.pointer (some ⟨N, 0, none⟩))])) w2 from ⟨hb.trans (hb2.mono hb.size), v, _, rfl, h0, h1, .inr ⟨_, _, rfl⟩, fun hl => by
      have := hx hl
      revert this
      cases numQ 16 h
      · intro _ e; cases e
      · rintro ⟨_, e⟩; cases e⟩)
    clear hb hx HU
    unfold serrV
    have HC := Lib.hid (Tryz.strconv_toError_range ⟨#[80, 97, 114, 115, 101, 85, 105, 110, 116]⟩ ⟨h.toArray⟩ 16 64 _ w1 (by show h.length ≤ _; omega) hc (.inr ⟨t, p, rfl⟩))
    clear hc HE1 HE2
    go_wp2_with fail
    refine HC.out.mono ?_
    rintro e w2 ⟨N, rfl, -, -, hb2⟩
    have HB2 := Lib.hid hb2
    clear hb2 HC
    go_wp2
    rw [HEE.out]
    exact HP.out _ _ HB2.out
  · obtain ⟨t, p, hc⟩ := HE1.out w1 HB.out
    have HP := Lib.hid (fun w2 N (hb2 : Below w1.heap.size w1 w2) => show PUintE 16 h w (.returned (.tuple #[.int .u64 v, .iface 243 (.pointer (some ⟨N, 0, none⟩))])) w2 from ⟨hb.trans (hb2.mono hb.size), v, _, rfl, h0, h1, .inr ⟨_, _, rfl⟩, fun hl => by
      have := hx hl
      revert this
      cases numQ 16 h
      · intro _ e; cases e
      · rintro ⟨_, e⟩; cases e⟩)
    clear hb hx HU
    unfold serrV
    have HC := Lib.hid (Tryz.strconv_toError_syntax ⟨#[80, 97, 114, 115, 101, 85, 105, 110, 116]⟩ ⟨h.toArray⟩ 16 64 _ w1 (by show h.length ≤ _; omega) hc (.inr ⟨t, p, rfl⟩))
    clear hc HE1 HE2
    go_wp2_with fail
    refine HC.out.mono ?_
    rintro e w2 ⟨N, rfl, -, -, hb2⟩
    have HB2 := Lib.hid hb2
    clear hb2 HC
    go_wp2
    rw [HEE.out]
    exact HP.out _ _ HB2.out
end Go.Proofs.YtjkiehmjffgnlaaGreatDoor
namespace Go.Proofs.YtjkiehmjffgnlaaGreatDoor
set_option linter.unusedVariables false
set_option linter.unusedSimpArgs false
open Go.RowKit

theorem refX_eq (s : List UInt8) : refX s = thenX (cutS [59] s) fun w r => match refW w with
  | none => none
  | some t => some (t, r) := rfl
theorem numRef_eq (B : Nat) (d : List UInt8) : numRef B d = if 9 < d.length then none else match numQ B d with
    | none => none
    | some n => if letC n then some (Utf8.encode (n : Int)).data.toList else none := by
  unfold numRef numQ
  by_cases h : d = []
  · subst h; rfl
  · simp only [h, false_or, if_false]
    rfl
theorem list_ne {a b : List UInt8} (h : ¬ a = b) : (a == b) = false := beq_eq_false_iff_ne.2 h
def hashN (d : List UInt8) : Option (List UInt8) := match d with
    | 120 :: q => numRef 16 q
    | q => numRef 10 q
theorem hashN_no {d : List UInt8} (h : [120].isPrefixOf d = false) : hashN d = numRef 10 d := by
  unfold hashN
  split
  · simp [List.isPrefixOf] at h
  · rfl
theorem refW_hash (d : List UInt8) : refW (35 :: d) = hashN d := by
  unfold hashN
  unfold refW wLt wGt wAmp wQuot wApos
  simp
  rcases d with _ | ⟨x, q⟩
  · rfl
  · by_cases h : x = 120
    · subst h; rfl
    · split <;> simp_all
theorem refW_else {w : List UInt8} (h1 : ¬ w = wLt) (h2 : ¬ w = wGt) (h3 : ¬ w = wAmp) (h4 : ¬ w = wQuot) (h5 : ¬ w = wApos) (h6 : [35].isPrefixOf w = false) : refW w = none := by
  unfold refW
  simp only [h1, h2, h3, h4, h5, if_false]
  split
  · simp [List.isPrefixOf] at h6
  · simp [List.isPrefixOf] at h6
  · rfl
theorem pre1 {x : UInt8} {w : List UInt8} (h : [x].isPrefixOf w = true) : ∃ d, w = x :: d := by
  rcases w with _ | ⟨y, d⟩
  · cases h
  · simp [List.isPrefixOf] at h
    exact ⟨d, by rw [h]⟩
theorem enc_data (n : Int) : (⟨((Utf8.encode n).data.toList).toArray⟩ : ByteArray) = Utf8.encode n := by
  apply ByteArray.ext
  simp
theorem strV_enc (w : World) (n : Int) : strV w (.string (Utf8.encode n)) (Utf8.encode n).data.toList := by
  unfold strV
  rw [enc_data]
set_option maxHeartbeats 8000000 in
set_option maxRecDepth 100000 in
set_option linter.unusedSimpArgs false in
theorem xref_any (b : Nat) (s : List UInt8) (w : World) (h : PX w b s) (hs : s.length ≤ 1000000) (hE : XE w b) : Calls Tryz.prog 114 #[.pointer (some ⟨b, 0, none⟩)] w (XOut b (refX s) strV w) := by
  have HUp := Lib.hid (xupto_any b s [59] w h (by omega) hE)
  have hX := refX_eq s
  obtain ⟨ANS, hA⟩ : ∃ A, refX s = A := ⟨_, rfl⟩
  rw [hA] at hX ⊢
  have HX := Lib.hid hX
  clear hA hX
  go_enter Tryz.func114, Tryz.ntmps114
  go_wp2_with fail
  refine HUp.out.mono ?_
  rintro e w1 ⟨hg1, hx⟩
  clear HUp h
  rcases h1 : cutS [59] s with _ | ⟨wd, r⟩
  · rw [h1] at hx HX
    subst hx
    exact ⟨rfl, xout_no HX.out hg1⟩
  rw [h1] at hx HX
  obtain ⟨v, rfl, rfl, hp1⟩ := hx
  have HX1 := Lib.hid (show ANS = match refW wd with
    | none => none
    | some t => some (t, r) from HX.out)
  have hlw : wd.length ≤ s.length := by
    have := congrArg List.length (cut_some h1)
    rw [List.length_append, List.length_append] at this
    omega
  have HP1 := Lib.hid hp1
  have HG1 := Lib.hid hg1
  clear h1 hp1 hg1 HX
  by_cases hwLt : wd = [108, 116]
  · subst hwLt
    have HX2 := Lib.hid (show ANS = some ([60], r) from HX1.out)
    clear HX1
    go_wp2
    go_ret
    exact xout_ok HX2.out HG1.out rfl HP1.out
  by_cases hwGt : wd = [103, 116]
  · subst hwGt
    have HX2 := Lib.hid (show ANS = some ([62], r) from HX1.out)
    clear HX1
    go_wp2
    go_ret
    exact xout_ok HX2.out HG1.out rfl HP1.out
  by_cases hwAmp : wd = [97, 109, 112]
  · subst hwAmp
    have HX2 := Lib.hid (show ANS = some ([38], r) from HX1.out)
    clear HX1
    go_wp2
    go_ret
    exact xout_ok HX2.out HG1.out rfl HP1.out
  by_cases hwQuot : wd = [113, 117, 111, 116]
  · subst hwQuot
    have HX2 := Lib.hid (show ANS = some ([34], r) from HX1.out)
    clear HX1
    go_wp2
    go_ret
    exact xout_ok HX2.out HG1.out rfl HP1.out
  by_cases hwApos : wd = [97, 112, 111, 115]
  · subst hwApos
    have HX2 := Lib.hid (show ANS = some ([39], r) from HX1.out)
    clear HX1
    go_wp2
    go_ret
    exact xout_ok HX2.out HG1.out rfl HP1.out
  have nwLt := list_ne hwLt
  have nwGt := list_ne hwGt
  have nwAmp := list_ne hwAmp
  have nwQuot := list_ne hwQuot
  have nwApos := list_ne hwApos
  have HC1 := Lib.hid (xcutPrefix_any wd [35])
  rw [trimP_eq] at HC1
  cases hh : [35].isPrefixOf wd
  · have HX2 := Lib.hid (show ANS = none by rw [HX1.out, refW_else hwLt hwGt hwAmp hwQuot hwApos hh])
    rw [hh] at HC1
    clear HX1 hwLt hwGt hwAmp hwQuot hwApos hh
    go_wp2_with (refine (HC1.out _).mono ?_; rintro e w3 ⟨rfl, rfl⟩)
    refine (xfail_any _).mono ?_
    rintro e w3 ⟨rfl, rfl⟩
    exact ⟨rfl, xout_no HX2.out HG1.out⟩
  rw [hh] at HC1
  obtain ⟨d0, hd0⟩ := pre1 hh
  have hd1 : wd.drop ([35] : List UInt8).length = d0 := by rw [hd0]; rfl
  rw [if_pos rfl, hd1] at HC1
  have HX2a := Lib.hid (show ANS = match hashN d0 with
    | none => none
    | some t => some (t, r) by rw [HX1.out, hd0, refW_hash])
  have hl0 : d0.length ≤ 1000000 := by rw [hd0] at hlw; simp at hlw; omega
  have HC2 := Lib.hid (xcutPrefix_any d0 [120])
  rw [trimP_eq] at HC2
  clear HX1 hwLt hwGt hwAmp hwQuot hwApos hh hd0 hd1
  cases hh : [120].isPrefixOf d0
  · rw [hh] at HC2
    have HX2 := Lib.hid (show ANS = match numRef 10 d0 with
      | none => none
      | some t => some (t, r) by
        rw [HX2a.out, hashN_no hh])
    obtain ⟨d, hd⟩ : ∃ d, d = d0 := ⟨_, rfl⟩
    subst hd
    clear HX2a hh
    have hlx : d.length ≤ 1000000000 := by omega
    have HPU := Lib.hid (fun w1 (hg : w.grownBy w1 (some b)) => xpuint10 d hlx w1 (hE.step hg).at)
    have HNR := Lib.hid (numRef_eq 10 d)
    clear hE
    go_wp2_with fail
    refine (HC1.out _).mono ?_
    rintro e w3 ⟨rfl, rfl⟩
    go_wp2_with fail
    refine (HC2.out _).mono ?_
    rintro e w3 ⟨rfl, rfl⟩
    clear HC1 HC2
    go_wp2_with fail
    refine (HPU.out _ HG1.out).mono ?_
    rintro e w2 ⟨hb, v, er, rfl, h0, h1, hk, hx⟩
    have HP2 := Lib.hid (HP1.out.below hb)
    have HG2 := Lib.hid (grown_trans HG1.out (Below.toGrown hb (some b)))
    clear hb
    by_cases h9 : 9 < d.length
    · have HX3 := Lib.hid (show ANS = none by rw [HX2.out, HNR.out, if_pos h9])
      have h9i : (9 : Int) < (d.length : Int) := by omega
      clear HX2 HNR hx
      rcases hk with rfl | ⟨t, p, rfl⟩
      all_goals
        go_wp2_with fail
        refine (xfail_any _).mono ?_
        rintro e w3 ⟨rfl, rfl⟩
        exact ⟨rfl, xout_no HX3.out HG2.out⟩
    · have hx2 := hx (by omega)
      have h9i : ¬ (9 : Int) < (d.length : Int) := by omega
      have HX3 := Lib.hid (show ANS = match (match numQ 10 d with
        | none => none
        | some n => if letC n then some (Utf8.encode (n : Int)).data.toList else none : Option (List UInt8)) with
        | none => none
        | some t => some (t, r) by rw [HX2.out, HNR.out, if_neg h9])
      clear HX2 HNR hx
      rcases hq : numQ 10 d with _ | n
      · rw [hq] at hx2 HX3
        rcases hk with rfl | ⟨t, p, rfl⟩
        · exact absurd rfl hx2
        clear hx2 hq
        go_wp2_with fail
        refine (xfail_any _).mono ?_
        rintro e w3 ⟨rfl, rfl⟩
        exact ⟨rfl, xout_no HX3.out HG2.out⟩
      · rw [hq] at hx2 HX3
        obtain ⟨rfl, rfl⟩ := hx2
        have HLet := Lib.hid (xletter_any (IntKind.i32.wrap (n : Int)))
        clear hk hq
        by_cases hn : (1114111 : Int) < (n : Int)
        · have HX4 := Lib.hid (show ANS = none by
            rw [HX3.out]
            have : letC n = false := by unfold letC; exact decide_eq_false (by omega)
            simp only [this]
            rfl)
          obtain ⟨m, hm⟩ : ∃ m, IntKind.i32.wrap (n : Int) = m := ⟨_, rfl⟩
          rw [hm] at HLet
          cases hl : letZ m
          all_goals
            rw [hl] at HLet
            go_wp2_with (refine (HLet.out _).mono ?_; rintro e w3 ⟨rfl, rfl⟩)
            refine (xfail_any _).mono ?_
            rintro e w3 ⟨rfl, rfl⟩
            exact ⟨rfl, xout_no HX4.out HG2.out⟩
        · have hwr : IntKind.i32.wrap (n : Int) = (n : Int) := by rw [IntKind.wrap_i32]; omega
          rw [hwr, letZ_nat] at HLet
          cases hl : letC n
          · rw [hl] at HLet
            have HX4 := Lib.hid (show ANS = none by rw [HX3.out]; simp only [hl]; rfl)
            go_wp2_with (refine (HLet.out _).mono ?_; rintro e w3 ⟨rfl, rfl⟩)
            refine (xfail_any _).mono ?_
            rintro e w3 ⟨rfl, rfl⟩
            exact ⟨rfl, xout_no HX4.out HG2.out⟩
          · rw [hl] at HLet
            have HX4 := Lib.hid (show ANS = some ((Utf8.encode (n : Int)).data.toList, r) by rw [HX3.out]; simp only [hl]; rfl)
            go_wp2_with (refine (HLet.out _).mono ?_; rintro e w3 ⟨rfl, rfl⟩)
            go_ret
            exact xout_ok HX4.out HG2.out (strV_enc _ _) HP2.out
  · rw [hh] at HC2
    obtain ⟨d, rfl⟩ := pre1 hh
    have HX2 := Lib.hid (show ANS = match numRef 16 d with
      | none => none
      | some t => some (t, r) from HX2a.out)
    have hd1 : (120 :: d).drop ([120] : List UInt8).length = d := rfl
    rw [if_pos rfl, hd1] at HC2
    rw [List.length_cons] at hl0
    generalize hdd : 120 :: d = d0 at *
    clear HX2a hh hd1 hdd
    have hlx : d.length ≤ 1000000000 := by omega
    have HPU := Lib.hid (fun w1 (hg : w.grownBy w1 (some b)) => xpuint16 d hlx w1 (hE.step hg).at)
    have HNR := Lib.hid (numRef_eq 16 d)
    clear hE
    go_wp2_with fail
    refine (HC1.out _).mono ?_
    rintro e w3 ⟨rfl, rfl⟩
    go_wp2_with fail
    refine (HC2.out _).mono ?_
    rintro e w3 ⟨rfl, rfl⟩
    clear HC1 HC2
    go_wp2_with fail
    refine (HPU.out _ HG1.out).mono ?_
    rintro e w2 ⟨hb, v, er, rfl, h0, h1, hk, hx⟩
    have HP2 := Lib.hid (HP1.out.below hb)
    have HG2 := Lib.hid (grown_trans HG1.out (Below.toGrown hb (some b)))
    clear hb
    by_cases h9 : 9 < d.length
    · have HX3 := Lib.hid (show ANS = none by rw [HX2.out, HNR.out, if_pos h9])
      have h9i : (9 : Int) < (d.length : Int) := by omega
      clear HX2 HNR hx
      rcases hk with rfl | ⟨t, p, rfl⟩
      all_goals
        go_wp2_with fail
        refine (xfail_any _).mono ?_
        rintro e w3 ⟨rfl, rfl⟩
        exact ⟨rfl, xout_no HX3.out HG2.out⟩
    · have hx2 := hx (by omega)
      have h9i : ¬ (9 : Int) < (d.length : Int) := by omega
      have HX3 := Lib.hid (show ANS = match (match numQ 16 d with
        | none => none
        | some n => if letC n then some (Utf8.encode (n : Int)).data.toList else none : Option (List UInt8)) with
        | none => none
        | some t => some (t, r) by rw [HX2.out, HNR.out, if_neg h9])
      clear HX2 HNR hx
      rcases hq : numQ 16 d with _ | n
      · rw [hq] at hx2 HX3
        rcases hk with rfl | ⟨t, p, rfl⟩
        · exact absurd rfl hx2
        clear hx2 hq
        go_wp2_with fail
        refine (xfail_any _).mono ?_
        rintro e w3 ⟨rfl, rfl⟩
        exact ⟨rfl, xout_no HX3.out HG2.out⟩
      · rw [hq] at hx2 HX3
        obtain ⟨rfl, rfl⟩ := hx2
        have HLet := Lib.hid (xletter_any (IntKind.i32.wrap (n : Int)))
        clear hk hq
        by_cases hn : (1114111 : Int) < (n : Int)
        · have HX4 := Lib.hid (show ANS = none by
            rw [HX3.out]
            have : letC n = false := by unfold letC; exact decide_eq_false (by omega)
            simp only [this]
            rfl)
          obtain ⟨m, hm⟩ : ∃ m, IntKind.i32.wrap (n : Int) = m := ⟨_, rfl⟩
          rw [hm] at HLet
          cases hl : letZ m
          all_goals
            rw [hl] at HLet
            go_wp2_with (refine (HLet.out _).mono ?_; rintro e w3 ⟨rfl, rfl⟩)
            refine (xfail_any _).mono ?_
            rintro e w3 ⟨rfl, rfl⟩
            exact ⟨rfl, xout_no HX4.out HG2.out⟩
        · have hwr : IntKind.i32.wrap (n : Int) = (n : Int) := by rw [IntKind.wrap_i32]; omega
          rw [hwr, letZ_nat] at HLet
          cases hl : letC n
          · rw [hl] at HLet
            have HX4 := Lib.hid (show ANS = none by rw [HX3.out]; simp only [hl]; rfl)
            go_wp2_with (refine (HLet.out _).mono ?_; rintro e w3 ⟨rfl, rfl⟩)
            refine (xfail_any _).mono ?_
            rintro e w3 ⟨rfl, rfl⟩
            exact ⟨rfl, xout_no HX4.out HG2.out⟩
          · rw [hl] at HLet
            have HX4 := Lib.hid (show ANS = some ((Utf8.encode (n : Int)).data.toList, r) by rw [HX3.out]; simp only [hl]; rfl)
            go_wp2_with (refine (HLet.out _).mono ?_; rintro e w3 ⟨rfl, rfl⟩)
            go_ret
            exact xout_ok HX4.out HG2.out (strV_enc _ _) HP2.out
end Go.Proofs.YtjkiehmjffgnlaaGreatDoor

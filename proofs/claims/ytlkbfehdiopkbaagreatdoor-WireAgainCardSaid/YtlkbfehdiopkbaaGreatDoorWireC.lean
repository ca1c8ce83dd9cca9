/-
  The walks of wire's lower and size (with strconv.ParseInt at base 16). Conditions: a text is shorter than a hundred million bytes.
-/
import Derived.Test.YtlkbfehdiopkbaaGreatDoorWireB
namespace Go.Proofs.YtlkbfehdiopkbaaGreatDoor
set_option linter.unusedVariables false
set_option linter.unusedSimpArgs false
open Go.RowKit

set_option maxHeartbeats 1000000 in
set_option maxRecDepth 100000 in
set_option linter.unusedSimpArgs false in
theorem wlower_any (s : List UInt8) (w : World) (hs : s.length ≤ 1000000000) :
    Calls Tryz.prog 60 #[.string ⟨s.toArray⟩] w (Ret (.string ⟨(lowS s).toArray⟩) w) := by
  have hcv := conv_string w s
  have hb0 := bytes_below w s
  have hw0 := bytes_bw w s
  have hs2 : s.length ≤ maxLen := by unfold maxLen; omega
  have hc1 := grownCap_ge w s.length 0 5
  have hc2 := grownCap_le_maxLen w s.length 0 5 hs2
  generalize grownCap w s.length 0 5 = cap at *
  generalize Lib.bytesWorld w 5 ⟨s.toArray⟩ = wb at *
  clear hs2
  go_enter Tryz.func60, Tryz.ntmps60
  go_wp2
  have hw1 := Lib.hid hw0
  clear hcv hw0
  go_loopw [10] (fun i wr => ∃ k : Nat, k ≤ s.length ∧ i = .int .i64 k ∧ BW wr w.heap.size (lowS (s.take k) ++ s.drop k) ∧ Below w.heap.size w wr) (fun i _ => s.length - (intOf i).toNat)
  case atStart => exact ⟨0, Nat.zero_le _, rfl, by simpa [lowS] using hw1.out, hb0⟩
  case round =>
    obtain ⟨k, hk, rfl, hbw, hbr⟩ := hrel
    clear hb0 hw1
    rcases hd : s.drop k with _ | ⟨x, q⟩
    · have hk2 : k = s.length := by have := drop_nil hd; omega
      rw [hd, List.append_nil, List.take_of_length_le (by omega)] at hbw
      clear hd
      subst hk2
      have hll : (lowS s).length = s.length := by unfold lowS; rw [List.length_map]
      have hcv2 := conv_bytes wr (.slice (some ⟨w.heap.size, 0, none⟩) (lowS s).length cap) (lowS s) (hbw.rd cap (by omega) hc2)
      rw [hll] at hcv2
      clear hll hbw
      go_wp2
      go_ret
      exact ⟨rfl, hbr⟩
    · obtain ⟨hlt, hx, hq⟩ := drop_cons hd
      rw [hd] at hbw
      obtain ⟨hat, hal⟩ := low_at hd
      obtain ⟨hc, hf⟩ := hbw.2 k x hat
      have HSet := Lib.hid (hbw.set k (lowC x) hal)
      rw [low_next hd] at HSet
      have HBW := Lib.hid hbw
      have Hq := Lib.hid hq
      have Hd := Lib.hid hd
      have hki : (k : Int) < s.length := by omega
      clear hd hq hat hal hx hbw
      by_cases a1 : 65 ≤ (x.toNat : Int)
      · by_cases a2 : (x.toNat : Int) ≤ 90
        · have hlu : ((lowC x).toNat : Int) = (x.toNat : Int) + 97 - 65 := by rw [lowC_up x a1 a2]; omega
          rw [hlu] at HSet
          clear hlu
          go_wp2
          go_roundw
          case rel => exact ⟨k + 1, by omega, by go_num, by rw [Hq.out]; exact HSet.out, hbr.setCell (Nat.le_refl _) _⟩
          case measure => simp [intOf]; omega
        · have H2 := Lib.hid (show BW wr w.heap.size (lowS (s.take (k + 1)) ++ q) by
            have := low_next Hd.out
            rw [lowC_id x (by omega), set_same' (low_at Hd.out).1] at this
            rw [← this]; exact HBW.out)
          clear HSet HBW
          go_wp2
          go_roundw
          case rel => exact ⟨k + 1, by omega, by go_num, by rw [Hq.out]; exact H2.out, hbr⟩
          case measure => simp [intOf]; omega
      · have H2 := Lib.hid (show BW wr w.heap.size (lowS (s.take (k + 1)) ++ q) by
          have := low_next Hd.out
          rw [lowC_id x (by omega), set_same' (low_at Hd.out).1] at this
          rw [← this]; exact HBW.out)
        clear HSet HBW
        go_wp2
        go_roundw
        case rel => exact ⟨k + 1, by omega, by go_num, by rw [Hq.out]; exact H2.out, hbr⟩
        case measure => simp [intOf]; omega
set_option maxHeartbeats 400000 in
set_option maxRecDepth 100000 in
set_option linter.unusedSimpArgs false in
theorem slower_any (c : UInt8) (w : World) : Calls Tryz.prog 136 #[.int .u8 c.toNat] w (Same0 (.int .u8 ((c ||| 32).toNat : Int)) w) := by
  have hor := or32 c
  go_enter Tryz.func136, Tryz.ntmps136
  go_wp2
  go_ret
  exact ⟨rfl, rfl⟩
theorem hex_f : ∀ (l : List UInt8) (a : Nat), (∀ c ∈ l, hexC c = true) → l.foldl (fun a c => a * 16 + hexV c) a < (a + 1) * 16 ^ l.length
  | [], a, _ => by simp
  | c :: l, a, h => by
    have h2 := h c (by simp)
    have h3 : hexV c < 16 := by
      have := u8_all (fun c => !hexC c || decide (hexV c < 16)) (by decide +kernel) c
      rw [h2] at this
      simpa using this
    have ih := hex_f l (a * 16 + hexV c) (fun x hx => h x (by simp [hx]))
    have e : (a + 1) * 16 ^ (c :: l).length = ((a + 1) * 16) * 16 ^ l.length := by rw [List.length_cons, Nat.pow_succ, Nat.mul_comm (16 ^ l.length), Nat.mul_assoc]
    rw [e, List.foldl_cons]
    exact Nat.lt_of_lt_of_le ih (Nat.mul_le_mul_right _ (by omega))
theorem hexN_lt (l : List UInt8) (h : ∀ c ∈ l, hexC c = true) : hexN l < 16 ^ l.length := by
  have := hex_f l 0 h
  simpa [hexN] using this
theorem hex_kind (x : UInt8) (h : hexC x = true) : (48 ≤ (x.toNat : Int) ∧ (x.toNat : Int) ≤ 57 ∧ (hexV x : Int) = (x.toNat : Int) - 48) ∨ (57 < (x.toNat : Int) ∧ 97 ≤ ((x ||| 32).toNat : Int) ∧ ((x ||| 32).toNat : Int) ≤ 102 ∧ (hexV x : Int) = ((x ||| 32).toNat : Int) - 97 + 10 ∧ ¬ (x.toNat : Int) = 95) := by
  have h1 := u8_all (fun x => !hexC x || decide ((48 ≤ x.toNat ∧ x.toNat ≤ 57 ∧ hexV x + 48 = x.toNat) ∨ (57 < x.toNat ∧ 97 ≤ (x ||| 32).toNat ∧ (x ||| 32).toNat ≤ 102 ∧ hexV x + 87 = (x ||| 32).toNat ∧ ¬ x.toNat = 95))) (by decide +kernel) x
  simp only [h, Bool.not_true, Bool.false_or] at h1
  have h2 := of_decide_eq_true h1
  omega
set_option maxHeartbeats 8000000 in
set_option maxRecDepth 100000 in
set_option linter.unusedSimpArgs false in
theorem puint_hex (h : List UInt8) (hne : h ≠ []) (hx : ∀ c ∈ h, hexC c = true) (hl : h.length ≤ 8) (w : World) :
    Calls Tryz.prog 120 #[.string ⟨h.toArray⟩, .int .i64 16, .int .i64 64] w (Ret (.tuple #[.int .u64 (hexN h), .nilIface]) w) := by
  have hcv := conv_string w h
  have hb0 := bytes_below w h
  have hw0 := bytes_bw w h
  have hmv : IntKind.u64.wrap (IntKind.u64.wrap 18446744073709551616 - 1) = 18446744073709551615 := by
    rw [IntKind.wrap_u64, IntKind.wrap_u64]
    decide
  generalize grownCap w h.length 0 5 = cap at *
  generalize Lib.bytesWorld w 5 ⟨h.toArray⟩ = wb at *
  have HX := Lib.hid hx
  have hem : h.isEmpty = false := by cases h with | nil => exact absurd rfl hne | cons => rfl
  clear hx
  go_enter Tryz.func120, Tryz.ntmps120
  go_wp2
  have hw1 := Lib.hid hw0
  clear hcv hw0
  go_loop [12, 13, 101] (fun u n i => ∃ (k : Nat) (a : Int), u = .bool false ∧ n = .int .u64 a ∧ i = .int .i64 k ∧ k ≤ h.length ∧ Hid (a = (hexN (h.take k) : Int))) (fun _ _ i => h.length - (intOf i).toNat)
  case atStart => exact ⟨0, 0, rfl, rfl, rfl, Nat.zero_le _, rfl⟩
  case round =>
    obtain ⟨k, a, rfl, rfl, rfl, hk, HA⟩ := hrel
    have hb1 := hexN_lt (h.take k) (fun c hc => HX.out c (List.mem_of_mem_take hc))
    rw [List.length_take, Nat.min_eq_left hk] at hb1
    by_cases hlt : k < h.length
    · have hx := List.getElem?_eq_getElem hlt
      generalize h[k] = x at hx
      have hp : 16 ^ k ≤ 16 ^ 7 := Nat.pow_le_pow_right (by omega) (by omega)
      have ha0 : 0 ≤ a := by rw [HA.out]; omega
      have ha1 : a ≤ 268435455 := by rw [HA.out]; omega
      have hcell := (hw1.out.2 k x hx).1
      have hnext : h.take (k + 1) = h.take k ++ [x] := by rw [List.take_add_one, hx]; rfl
      have HN := Lib.hid (show (hexN (h.take (k + 1)) : Int) = a * 16 + hexV x by rw [hnext, hexN_app, HA.out]; omega)
      have hki : (k : Int) < h.length := by omega
      have hk0 : (0 : Int) ≤ (k : Int) := by omega
      have HLo := Lib.hid (fun w => slower_any x w)
      have hkind := hex_kind x (HX.out x (List.mem_of_getElem? hx))
      generalize (hexV x : Int) = v at *
      generalize ((x ||| 32).toNat : Int) = y at *
      clear hb1 hp hnext hx HA hw1
      rcases hkind with ⟨a1, a2, a3⟩ | ⟨a1, a2, a3, a4, a5⟩
      · have H3 := Lib.hid a3
        clear a3
        have b1 : ((x.toNat : Int) == 95) = false := beq_eq_false_iff_ne.2 (by omega)
        go_wp2_with fail
        go_round
        case rel => exact ⟨k + 1, _, rfl, rfl, by go_num, by omega, by rw [HN.out, H3.out]; exact rfl⟩
        case measure => simp [intOf]; omega
      · have H3 := Lib.hid a4
        have b1 : ((x.toNat : Int) == 95) = false := beq_eq_false_iff_ne.2 a5
        have b2 : ¬ (x.toNat : Int) ≤ 57 := by omega
        clear a4 a5
        go_wp2_with (refine (HLo.out _).mono ?_; rintro e w1 ⟨rfl, rfl⟩)
        go_round
        case rel => exact ⟨k + 1, _, rfl, rfl, by go_num, by omega, by rw [HN.out, H3.out]; exact rfl⟩
        case measure => simp [intOf]; omega
    · have hk2 : k = h.length := by omega
      subst hk2
      rw [List.take_length] at HA
      obtain rfl : a = (hexN h : Int) := HA.out
      clear hb1 HA hlt
      go_wp2
      go_ret2
      exact ⟨rfl, hb0⟩
set_option maxHeartbeats 2000000 in
set_option maxRecDepth 100000 in
set_option linter.unusedSimpArgs false in
theorem ipint_hex (h : List UInt8) (hne : h ≠ []) (hx : ∀ c ∈ h, hexC c = true) (hl : h.length ≤ 8) (w : World) :
    Calls Tryz.prog 93 #[.string ⟨h.toArray⟩, .int .i64 16, .int .i64 64] w (Ret (.tuple #[.int .i64 (hexN h), .nilIface]) w) := by
  have HU := Lib.hid (puint_hex h hne hx hl w)
  have hb1 := hexN_lt h hx
  have hp : 16 ^ h.length ≤ 16 ^ 8 := Nat.pow_le_pow_right (by omega) (by omega)
  have hn : (hexN h : Int) ≤ 4294967295 := by omega
  have hn0 : (0 : Int) ≤ (hexN h : Int) := by omega
  obtain ⟨c, q, rfl⟩ : ∃ c q, h = c :: q := by cases h with | nil => exact absurd rfl hne | cons c q => exact ⟨c, q, rfl⟩
  have hc := hx c (by simp)
  have hkind := hex_kind c hc
  have e1 : ((c.toNat : Int) == 43) = false := beq_eq_false_iff_ne.2 (by omega)
  have e2 : ((c.toNat : Int) == 45) = false := beq_eq_false_iff_ne.2 (by omega)
  generalize (hexN (c :: q) : Int) = n at *
  have hlen : (0 : Int) < ((c :: q).length : Int) := by simp
  have hget : ∀ hk, (⟨(c :: q).toArray⟩ : ByteArray)[0]'hk = c := fun _ => rfl
  have hem : (c :: q).isEmpty = false := rfl
  generalize hz : c :: q = z at *
  clear hb1 hp hkind hx hne hz hc
  go_enter Tryz.func93, Tryz.ntmps93
  go_wp2_with fail
  refine HU.out.mono ?_
  rintro e w1 ⟨rfl, hb1⟩
  go_wp2
  go_ret2
  exact ⟨rfl, hb1⟩
set_option maxHeartbeats 400000 in
set_option maxRecDepth 100000 in
set_option linter.unusedSimpArgs false in
theorem pint_hex (h : List UInt8) (hne : h ≠ []) (hx : ∀ c ∈ h, hexC c = true) (hl : h.length ≤ 8) (w : World) :
    Calls Tryz.prog 110 #[.string ⟨h.toArray⟩, .int .i64 16, .int .i64 64] w (Ret (.tuple #[.int .i64 (hexN h), .nilIface]) w) := by
  have HU := Lib.hid (ipint_hex h hne hx hl w)
  clear hne hx hl
  go_enter Tryz.func110, Tryz.ntmps110
  go_wp2_with fail
  refine HU.out.mono ?_
  rintro e w1 ⟨rfl, hb1⟩
  go_wp2
  go_ret2
  exact ⟨rfl, hb1⟩
/-- what wire.size hands back, or the panic. -/
def SizeP (o : Option Nat) (w : World) (e : Ending) (w' : World) : Prop :=
  Below w.heap.size w w' ∧ match o with
    | some n => e = .returned (.int .i64 n)
    | none => e = .panicked (stopE 400)
theorem sizeP_no {o : Option Nat} {w w' : World} (h : o = none) (hb : Below w.heap.size w w') : SizeP o w (.panicked (stopE 400)) w' := by
  subst h
  exact ⟨hb, rfl⟩
theorem sizeP_yes {o : Option Nat} {w w' : World} {n : Nat} (h : o = some n) (hb : Below w.heap.size w w') : SizeP o w (.returned (.int .i64 n)) w' := by
  subst h
  exact ⟨hb, rfl⟩
theorem tw_split (p : UInt8 → Bool) : ∀ l : List UInt8, ∃ t, l = l.takeWhile p ++ t ∧ (∀ c ∈ l.takeWhile p, p c = true) ∧ (∀ c q, t = c :: q → p c = false)
  | [] => ⟨[], rfl, (fun c h => by cases h), (fun c q h => by cases h)⟩
  | x :: l => by
    obtain ⟨t, h1, h2, h3⟩ := tw_split p l
    cases hp : p x
    · refine ⟨x :: l, by rw [List.takeWhile_cons, hp]; rfl, fun c hc => ?_, fun c q h => ?_⟩
      · rw [List.takeWhile_cons, hp] at hc; cases hc
      · injection h with e _; rw [← e]; exact hp
    · refine ⟨t, by rw [List.takeWhile_cons, hp]; simpa using h1, fun c hc => ?_, h3⟩
      rw [List.takeWhile_cons, hp] at hc
      rcases List.mem_cons.1 hc with rfl | hc
      · exact hp
      · exact h2 c hc
/-- a byte of a chunk's size, as the code asks. -/
theorem hexC_cases (x : UInt8) : (digC x = true ∧ hexC x = true) ∨ (digC x = false ∧ 97 ≤ ((x ||| 32).toNat : Int) ∧ ((x ||| 32).toNat : Int) ≤ 102 ∧ hexC x = true) ∨ (digC x = false ∧ 97 ≤ ((x ||| 32).toNat : Int) ∧ ¬ ((x ||| 32).toNat : Int) ≤ 102 ∧ hexC x = false) ∨ (digC x = false ∧ ¬ 97 ≤ ((x ||| 32).toNat : Int) ∧ hexC x = false) := by
  unfold hexC
  cases digC x
  · by_cases h1 : 97 ≤ ((x ||| 32).toNat : Int)
    · by_cases h2 : ((x ||| 32).toNat : Int) ≤ 102
      · exact .inr (.inl ⟨rfl, h1, h2, (Bool.false_or _).trans (decide_eq_true ⟨by omega, by omega⟩)⟩)
      · exact .inr (.inr (.inl ⟨rfl, h1, h2, (Bool.false_or _).trans (decide_eq_false (by omega))⟩))
    · exact .inr (.inr (.inr ⟨rfl, h1, (Bool.false_or _).trans (decide_eq_false (by omega))⟩))
  · exact .inl ⟨rfl, rfl⟩
def sizeT (h : List UInt8) : List UInt8 → Option Nat
  | [] => some (hexN h)
  | c :: _ => if c = 59 ∨ c = 32 ∨ c = 9 then some (hexN h) else none
theorem sizeS_eq {l h t : List UInt8} (htake : l.takeWhile hexC = h) (hdrop : l.drop h.length = t) : sizeS l = if h = [] ∨ 8 < h.length then none else sizeT h t := by
  unfold sizeS
  simp only [htake, hdrop]
  cases t <;> rfl
theorem sizeT_cons (h : List UInt8) (c : UInt8) (q : List UInt8) : sizeT h (c :: q) = if Lib.indexByte [59, 32, 9] c < 0 then none else some (hexN h) := by
  have hm := indexByte_mem c [59, 32, 9]
  unfold sizeT
  by_cases hc : c = 59 ∨ c = 32 ∨ c = 9
  · exact (if_pos hc).trans (if_neg (fun hi => hm.1 hi (by simpa using hc))).symm
  · exact (if_neg hc).trans (if_pos (hm.2 (by simpa using hc))).symm
set_option maxHeartbeats 4000000 in
set_option maxRecDepth 100000 in
set_option linter.unusedSimpArgs false in
theorem wsize_any (l : List UInt8) (w : World) (hl : l.length ≤ 100000000) :
    Calls Tryz.prog 86 #[.string ⟨l.toArray⟩] w (SizeP (sizeS l) w) := by
  obtain ⟨h, t, hlt, hall, hstop, htake, hdrop⟩ : ∃ h t, l = h ++ t ∧ (∀ c ∈ h, hexC c = true) ∧ (∀ c q, t = c :: q → hexC c = false) ∧ l.takeWhile hexC = h ∧ l.drop h.length = t := by
    obtain ⟨t, h1, h2, h3⟩ := tw_split hexC l
    refine ⟨l.takeWhile hexC, t, h1, h2, h3, rfl, ?_⟩
    generalize l.takeWhile hexC = h at *
    rw [h1, List.drop_left]
  have HS := Lib.hid (sizeS_eq htake hdrop)
  generalize sizeS l = ANS at *
  have hlen : h.length + t.length = l.length := by rw [hlt, List.length_append]
  have HL := Lib.hid hlt
  have HA := Lib.hid hall
  have HSt := Lib.hid hstop
  have HDr := Lib.hid hdrop
  clear hlt hall hstop htake hdrop
  have HDg := Lib.hid (fun c w => digit_any c w)
  go_enter Tryz.func86, Tryz.ntmps86
  go_wp2
  go_loop [3] (fun i => ∃ k : Nat, k ≤ h.length ∧ i = .int .i64 k) (fun i => l.length - (intOf i).toNat)
  case atStart => exact ⟨0, Nat.zero_le _, rfl⟩
  case round =>
    obtain ⟨k, hk, rfl⟩ := hrel
    by_cases hkl : k < h.length
    · have hx : l[k]? = some h[k] := by rw [HL.out, List.getElem?_append_left hkl]; exact List.getElem?_eq_getElem hkl
      have hhx := HA.out h[k] (List.getElem_mem hkl)
      generalize h[k] = x at hx hhx
      have hgx : ∀ hk, (⟨l.toArray⟩ : ByteArray)[k]'hk = x := fun hk => by
        have := List.getElem?_eq_some_iff.1 hx
        exact this.2
      have hki : (k : Int) < l.length := by omega
      have hor := or32 x
      have HDx := Lib.hid (HDg.out x)
      have hc := hexC_cases x
      rw [hhx] at hc
      generalize ((x ||| 32).toNat : Int) = y at *
      clear hx hhx
      rcases hc with ⟨d, -⟩ | ⟨d, a1, a2, -⟩ | ⟨_, _, _, h0⟩ | ⟨_, _, h0⟩
      · rw [d] at HDx
        clear d
        go_wp2_with (refine (HDx.out _).mono ?_; rintro e w1 ⟨rfl, rfl⟩)
        go_round
        case rel => exact ⟨k + 1, by omega, by go_num⟩
        case measure => simp [intOf]; omega
      · rw [d] at HDx
        clear d
        go_wp2_with (refine (HDx.out _).mono ?_; rintro e w1 ⟨rfl, rfl⟩)
        go_round
        case rel => exact ⟨k + 1, by omega, by go_num⟩
        case measure => simp [intOf]; omega
      · cases h0
      · cases h0
    · obtain rfl : k = h.length := by omega
      clear hkl hk
      have HT := Lib.hid (show t = [] ∧ h.length = l.length ∨ ∃ x q, t = x :: q ∧ h.length < l.length ∧ (∀ hk, (⟨l.toArray⟩ : ByteArray)[h.length]'hk = x) ∧ hexC x = false by
        rcases ht : t with _ | ⟨x, q⟩
        · rw [ht] at hlen
          exact .inl ⟨rfl, by simpa using hlen⟩
        · refine .inr ⟨x, q, rfl, by rw [ht, List.length_cons] at hlen; omega, fun hk => ?_, HSt.out x q ht⟩
          have hd := HDr.out
          rw [ht] at hd
          exact (drop_cons hd).2.1 hk)
      have HPI := Lib.hid (fun hne hl w => pint_hex h hne HA.out hl w)
      have htk : l.take h.length = h := by rw [HL.out, List.take_left]
      have HIx := Lib.hid (fun x w => indexByte_any [59, 32, 9] x w)
      have HF := Lib.hid (fun w => fail_any 400 w)
      have k0 : (0 : Int) ≤ (h.length : Int) := by omega
      have k1 : (h.length : Int) ≤ l.length := by omega
      clear HA HSt HDr HL
      have G0 := Lib.hid (fun (e : h = []) => HS.out.trans (if_pos (.inl e)))
      have G8 := Lib.hid (fun (e : 8 < h.length) => HS.out.trans (if_pos (.inr e)))
      have GT := Lib.hid (fun (e1 : h ≠ []) (e2 : ¬ 8 < h.length) => HS.out.trans (if_neg (fun x => x.elim e1 e2)))
      clear HS
      generalize hn : h.length = n at *
      have HN0 := Lib.hid hn
      clear hn
      rcases HT.out with ⟨ht, hq⟩ | ⟨x, q, ht, hq, hget, hxx⟩
      · rw [ht] at GT
        clear HT ht hlen HIx HDg
        have hq1 : decide (n < l.length) = false := decide_eq_false (by omega)
        by_cases h0 : h = []
        · have HN := Lib.hid (G0.out h0)
          obtain rfl : n = 0 := by rw [← HN0.out, h0]; rfl
          clear G0 G8 GT HPI htk hq h0
          go_wp2_with (refine (HF.out _).mono ?_; rintro e w1 ⟨rfl, rfl⟩)
          exact ⟨rfl, sizeP_no HN.out (Below.refl _ _)⟩
        · have hz : ((n : Int) == 0) = false := by
            have := List.length_pos_iff.2 h0
            rw [HN0.out] at this
            exact beq_eq_false_iff_ne.2 (by omega)
          by_cases h8 : 8 < n
          · have HN := Lib.hid (G8.out h8)
            have h8' : (8 : Int) < n := by omega
            clear G0 G8 GT HPI htk hq h8
            go_wp2_with (refine (HF.out _).mono ?_; rintro e w1 ⟨rfl, rfl⟩)
            exact ⟨rfl, sizeP_no HN.out (Below.refl _ _)⟩
          · have HY := Lib.hid (GT.out h0 h8)
            have HP := Lib.hid (HPI.out h0 (by omega))
            have h8' : ¬ (8 : Int) < n := by omega
            clear G0 G8 GT HPI hq h8 HF
            go_wp2_with (refine (HP.out _).mono ?_; rintro e w1 ⟨rfl, hb1⟩)
            go_ret
            exact sizeP_yes HY.out hb1
      · rw [ht, sizeT_cons] at GT
        have HI := Lib.hid (HIx.out x)
        have HD := Lib.hid (HDg.out x)
        generalize Lib.indexByte [59, 32, 9] x = ix at *
        have hor := or32 x
        have hcs := hexC_cases x
        rw [hxx] at hcs
        generalize ((x ||| 32).toNat : Int) = y at *
        have hq1 : decide (n < l.length) = true := decide_eq_true hq
        have hq2 : (n : Int) < l.length := by omega
        clear HT ht hlen HIx HDg hxx
        rcases hcs with ⟨_, h0⟩ | ⟨_, _, _, h0⟩ | ⟨d, a1, a2, -⟩ | ⟨d, a1, -⟩
        · cases h0
        · cases h0
        all_goals
          rw [d] at HD
          clear d
          by_cases h0 : h = []
          · have HN := Lib.hid (G0.out h0)
            obtain rfl : n = 0 := by rw [← HN0.out, h0]; rfl
            clear G0 G8 GT HPI htk h0
            go_wp2_with (first | (go_at_call 55; refine (HD.out _).mono ?_; rintro e w1 ⟨rfl, rfl⟩) | (go_at_call 54; refine (HF.out _).mono ?_; rintro e w1 ⟨rfl, rfl⟩))
            exact ⟨rfl, sizeP_no HN.out (Below.refl _ _)⟩
          · have hz : ((n : Int) == 0) = false := by
              have := List.length_pos_iff.2 h0
              rw [HN0.out] at this
              exact beq_eq_false_iff_ne.2 (by omega)
            by_cases h8 : 8 < n
            · have HN := Lib.hid (G8.out h8)
              have h8' : (8 : Int) < n := by omega
              clear G0 G8 GT HPI htk h8
              go_wp2_with (first | (go_at_call 55; refine (HD.out _).mono ?_; rintro e w1 ⟨rfl, rfl⟩) | (go_at_call 54; refine (HF.out _).mono ?_; rintro e w1 ⟨rfl, rfl⟩))
              exact ⟨rfl, sizeP_no HN.out (Below.refl _ _)⟩
            · have HY := Lib.hid (GT.out h0 h8)
              have HP := Lib.hid (HPI.out h0 (by omega))
              have h8' : ¬ (8 : Int) < n := by omega
              clear G0 G8 GT HPI h8
              by_cases hix : ix < 0
              · have HN := Lib.hid (HY.out.trans (if_pos hix))
                clear HY HP
                go_wp2_with (first | (go_at_call 55; refine (HD.out _).mono ?_; rintro e w1 ⟨rfl, rfl⟩) | (go_at_call 75; refine (HI.out _).mono ?_; rintro e w1 ⟨rfl, rfl⟩) | (go_at_call 54; refine (HF.out _).mono ?_; rintro e w1 ⟨rfl, rfl⟩))
                exact ⟨rfl, sizeP_no HN.out (Below.refl _ _)⟩
              · have HN := Lib.hid (HY.out.trans (if_neg hix))
                clear HY
                go_wp2_with (first | (go_at_call 55; refine (HD.out _).mono ?_; rintro e w1 ⟨rfl, rfl⟩) | (go_at_call 75; refine (HI.out _).mono ?_; rintro e w1 ⟨rfl, rfl⟩) | (go_at_call 110; refine (HP.out _).mono ?_; rintro e w1 ⟨rfl, hb1⟩))
                go_ret
                exact sizeP_yes HN.out hb1
end Go.Proofs.YtlkbfehdiopkbaaGreatDoor

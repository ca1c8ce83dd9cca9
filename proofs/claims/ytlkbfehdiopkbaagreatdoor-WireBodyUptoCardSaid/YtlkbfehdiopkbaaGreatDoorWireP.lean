/-
  The walk of the statement on bodies: a body of any bytes comes as it is. Conditions: the bounds; what the listed variables hold.
-/
import Derived.Test.YtlkbfehdiopkbaaGreatDoorWireK
import Derived.Test.YtlkbfehdiopkbaaGreatDoorWireL
namespace Go.Proofs.YtlkbfehdiopkbaaGreatDoor
set_option linter.unusedVariables false
set_option linter.unusedSimpArgs false
open Go.RowKit

def strN : Value → Nat
  | .string s => s.size
  | _ => 0
theorem strN_mk (l : List UInt8) : strN (.string ⟨l.toArray⟩) = l.length := rfl
def putS : List UInt8 := [80, 85, 84, 32, 47, 120, 32, 72, 84, 84, 80, 47, 49, 46, 49, 13, 10, 104, 111, 115, 116, 58, 32, 104, 13, 10]
theorem b1_text (body behind : List UInt8) : reqText lPut [lHost, lLen body.length] (body ++ behind) = putS ++ ([67, 111, 110, 116, 101, 110, 116, 45, 76, 101, 110, 103, 116, 104, 58, 32] ++ (numB 10 body.length ++ ([13, 10, 13, 10] ++ (body ++ behind)))) := by
  rw [num10]
  unfold reqText hText lHost lPut lLen putS
  simp
theorem b2_text (ds : List (List UInt8)) (behind : List UInt8) : reqText lPut [lHost, lCod] (ds.flatMap chunkOf ++ (chunkEnd ++ behind)) = putS ++ ([84, 114, 97, 110, 115, 102, 101, 114, 45, 69, 110, 99, 111, 100, 105, 110, 103, 58, 32, 67, 104, 117, 110, 107, 101, 100, 13, 10, 13, 10] ++ (ds.flatMap chunkOf ++ ([48, 48, 13, 10, 110, 111, 116, 101, 58, 32, 120, 13, 10, 13, 10] ++ behind))) := by
  unfold reqText hText lHost lPut lCod putS chunkEnd
  simp
theorem chunks_snoc (ds : List (List UInt8)) (d : List UInt8) : (ds ++ [d]).flatMap chunkOf = ds.flatMap chunkOf ++ (numB 16 d.length ++ ([59, 120, 61, 34, 121, 34, 13, 10] ++ (d ++ [13, 10]))) := by
  rw [List.flatMap_append]
  simp [chunkOf]
theorem chunks_len : ∀ ds : List (List UInt8), (∀ d ∈ ds, d ≠ []) → ds.flatten.length ≤ 8192 → (ds.flatMap chunkOf).length ≤ 20 * ds.flatten.length
  | [], _, _ => Nat.le_refl _
  | d :: ds, h, hl => by
    rw [List.flatten_cons, List.length_append] at hl
    have := chunks_len ds (fun x hx => h x (by simp [hx])) (by omega)
    have h1 := List.length_pos_iff.2 (h d (by simp))
    have h2 := num16_len d.length (by omega)
    rw [List.flatMap_cons, List.flatten_cons, List.length_append, List.length_append]
    unfold chunkOf at *
    simp only [List.length_append, List.length_cons, List.length_nil] at *
    omega
set_option maxHeartbeats 4000000 in
set_option maxRecDepth 100000 in
set_option linter.unusedSimpArgs false in
theorem law_body (body behind cuts : List UInt8) (cv : Value) (w : World) (hl : body.length ≤ 50000000) (hl2 : behind.length ≤ 50000000) (hcuts : RdL w cv (vbytes cuts)) (hE : Env w) :
    Calls Tryz.prog 4 #[.string ⟨body.toArray⟩, cv, .string ⟨behind.toArray⟩] w (Ret (.bool true) w) := by
  have HFx := Lib.hid (fun w' (hb : Below w.heap.size w w') => fixed11_any w' (hE.below hb))
  have HR := Lib.hid (fun t w' (hb : Below w.heap.size w w') (ht : t.length ≤ 100000000) => wread_any t w' ht (hE.below hb))
  have HCu := Lib.hid hcuts
  obtain ⟨A, cap, rfl, hca, hcb, -⟩ := hcuts
  rw [vbytes_len] at HCu
  clear hE
  have hvl := vbytes_len cuts
  rw [hvl]
  go_enter Tryz.func4, Tryz.ntmps4
  go_wp2_with fail
  refine (HFx.out w (Below.refl _ _)).mono ?_
  rintro e w1 ⟨rfl, hb1⟩
  by_cases hbig : (8192 : Int) < body.length
  · go_wp2_with fail
    refine (HFx.out w1 hb1).mono ?_
    rintro e w2 ⟨rfl, hb2⟩
    have hbl := hb1.trans (hb2.mono hb1.size)
    clear HFx HR hb1 hb2 HCu
    go_wp2
    go_ret
    exact ⟨rfl, hbl⟩
  have HB1 := Lib.hid hb1
  have H1 := Lib.hid (body_len [80, 85, 84] [47, 120] lPut body put_line.1 put_line.2.1 put_line.2.2 (by omega) behind)
  rw [b1_text] at H1
  have HNm := Lib.hid (show ∀ w, Calls Tryz.prog 15 #[.int .i64 (body.length : Int), .int .i64 10] w (Same0 (.string ⟨(numB 10 body.length).toArray⟩) w) from fun w => number_any 10 (.inl rfl) body.length w (by omega))
  have hnl0 := numB_len 10 body.length
  clear hb1 HFx
  generalize numB 10 body.length = N0 at *
  go_wp2_with fail
  refine (HNm.out _).mono ?_
  rintro e w2 ⟨rfl, rfl⟩
  clear HNm
  go_wp2_with fail
  have HRX := HR.out (putS ++ ([67, 111, 110, 116, 101, 110, 116, 45, 76, 101, 110, 103, 116, 104, 58, 32] ++ (N0 ++ ([13, 10, 13, 10] ++ (body ++ behind))))) w1 HB1.out (by unfold putS; simp; omega)
  rw [H1.out] at HRX
  have hn1 : ((putS ++ ([67, 111, 110, 116, 101, 110, 116, 45, 76, 101, 110, 103, 116, 104, 58, 32] ++ (N0 ++ ([13, 10, 13, 10] ++ (body ++ behind))))).length : Int) - behind.length = ((46 + N0.length + body.length : Nat) : Int) := by
    unfold putS
    simp only [List.length_append, List.length_cons, List.length_nil]
    omega
  simp only [putS, List.cons_append, List.nil_append] at HRX hn1
  refine HRX.mono ?_
  rintro e w3 ⟨hb3, v1, rfl, ho1⟩
  have hh1 := own_hdrs ho1
  obtain ⟨A1, k1, rfl, -, -, -⟩ := hh1
  rw [hn1]
  obtain ⟨n1, hn2⟩ : ∃ n : Nat, n = 46 + N0.length + body.length := ⟨_, rfl⟩
  rw [← hn2]
  have hn3 : (0 : Int) < (n1 : Int) := by omega
  unfold reqV
  simp only [List.length_cons, List.length_nil, Nat.zero_add, Nat.reduceAdd]
  have HB3 := Lib.hid ((HB1.out.trans (hb3.mono HB1.out.size)).alloc (HB1.out.trans (hb3.mono HB1.out.size)).size (.cells #[.string ⟨[80, 85, 84].toArray⟩, .string ⟨[47, 120].toArray⟩, .slice A1 2 k1, .string ⟨body.toArray⟩, .bool false] 26 (0, 0)))
  clear HRX HB1 H1 hb3 ho1 hn1 hn2
  go_wp2_with fail
  have HN := Lib.hid (show ∀ K : Nat, K ≤ 8192 → ∀ w, Calls Tryz.prog 15 #[.int .i64 (K : Int), .int .i64 16] w (Same0 (.string ⟨(numB 16 K).toArray⟩) w) from fun K hK w => number_any 16 (.inr rfl) K w (by omega))
  generalize w3.alloc (.cells #[.string ⟨#[80, 85, 84]⟩, .string ⟨#[47, 120]⟩, .slice A1 2 k1, .string ⟨body.toArray⟩, .bool false] 26 (0, 0)) = wS at *
  have hdb : decide ((8192 : Int) < body.length) = false := decide_eq_false (by omega)
  simp only [hdb]
  go_loopw [11, 12, 13] (fun cv rv iv wr => ∃ (ds : List (List UInt8)) (rest : List UInt8), cv = .string ⟨(ds.flatMap chunkOf).toArray⟩ ∧ rv = .string ⟨rest.toArray⟩ ∧ iv = .int .i64 ((ds.length : Nat) : Int) ∧ Hid (body = ds.flatten ++ rest) ∧ Hid (∀ d ∈ ds, d ≠ []) ∧ Below wS.heap.size wS wr) (fun _ rv _ _ => strN rv)
  case atStart => exact ⟨[], body, rfl, rfl, rfl, Lib.hid rfl, Lib.hid (fun d hd => by cases hd), Below.refl _ _⟩
  case round =>
    obtain ⟨ds, rest, rfl, rfl, rfl, HB, HD, hb⟩ := hrel
    have hfl := flatten_le ds HD.out
    have hbl : ds.flatten.length + rest.length = body.length := by
      have := congrArg List.length HB.out
      rw [List.length_append] at this
      omega
    have hcl0 := chunks_len ds HD.out (by omega)
    have hcl : (ds.flatMap chunkOf).length ≤ 163840 := by omega
    clear hcl0
    by_cases hr : rest = []
    · subst hr
      have hbo : body = ds.flatten := by rw [HB.out, List.append_nil]
      have H2 := Lib.hid (body_chunks [80, 85, 84] [47, 120] lPut ds put_line.1 put_line.2.1 put_line.2.2 HD.out (by omega) behind)
      rw [b2_text, ← hbo] at H2
      have HBr := Lib.hid (HB3.out.trans (hb.mono HB3.out.size))
      have hbe : ¬ (0 : Int) < (([] : List UInt8).length : Int) := by simp
      clear HB HD hbo hfl hbl hb HB3 HN HCu
      generalize ds.flatMap chunkOf = CH at *
      go_wp2_with fail
      have HRX := HR.out (putS ++ ([84, 114, 97, 110, 115, 102, 101, 114, 45, 69, 110, 99, 111, 100, 105, 110, 103, 58, 32, 67, 104, 117, 110, 107, 101, 100, 13, 10, 13, 10] ++ (CH ++ ([48, 48, 13, 10, 110, 111, 116, 101, 58, 32, 120, 13, 10, 13, 10] ++ behind)))) wr HBr.out (by unfold putS; simp; omega)
      rw [H2.out] at HRX
      have hn1 : ((putS ++ ([84, 114, 97, 110, 115, 102, 101, 114, 45, 69, 110, 99, 111, 100, 105, 110, 103, 58, 32, 67, 104, 117, 110, 107, 101, 100, 13, 10, 13, 10] ++ (CH ++ ([48, 48, 13, 10, 110, 111, 116, 101, 58, 32, 120, 13, 10, 13, 10] ++ behind)))).length : Int) - behind.length = ((putS ++ ([84, 114, 97, 110, 115, 102, 101, 114, 45, 69, 110, 99, 111, 100, 105, 110, 103, 58, 32, 67, 104, 117, 110, 107, 101, 100, 13, 10, 13, 10] ++ (CH ++ [48, 48, 13, 10, 110, 111, 116, 101, 58, 32, 120, 13, 10, 13, 10]))).length : Int) := by
        unfold putS
        simp only [List.length_append, List.length_cons, List.length_nil]
        omega
      simp only [putS, List.cons_append, List.nil_append] at HRX hn1
      refine HRX.mono ?_
      rintro e w4 ⟨hb4, v2, rfl, ho2⟩
      have hh2 := own_hdrs ho2
      obtain ⟨A2, k2, rfl, -, -, -⟩ := hh2
      rw [hn1]
      unfold reqV
      simp only [List.length_cons, List.length_nil, Nat.zero_add, Nat.reduceAdd]
      have hbl := (HBr.out.trans (hb4.mono HBr.out.size)).alloc (HBr.out.trans (hb4.mono HBr.out.size)).size (.cells #[.string ⟨[80, 85, 84].toArray⟩, .string ⟨[47, 120].toArray⟩, .slice A2 2 k2, .string ⟨body.toArray⟩, .bool false] 26 (0, 0))
      clear HRX HBr H2 hb4 ho2 HR hn1
      go_wp2
      go_ret
      exact ⟨rfl, hbl⟩
    · have hrl : (0 : Int) < rest.length := by have := List.length_pos_iff.2 hr; omega
      by_cases hi : ds.length < cuts.length ∧ ds.length < 100
      · obtain ⟨A', cap', hva, -, -, hcc⟩ := HCu.out.below (HB3.out.trans (hb.mono HB3.out.size)) (Nat.le_refl _)
        injection hva with e1 e2 e3
        subst e1 e3
        clear e2
        obtain ⟨c, hc⟩ : ∃ c, cuts[ds.length]? = some c := ⟨_, List.getElem?_eq_getElem hi.1⟩
        obtain ⟨b, o, rfl, hblt, hcell⟩ := hcc ds.length (.int .u8 c.toNat) (by unfold vbytes; rw [List.getElem?_map, hc]; rfl)
        have f1 : (ds.length : Int) < cuts.length := by omega
        have f2 : (0 : Int) ≤ (ds.length : Int) := by omega
        have f3 : (ds.length : Int) < 100 := by omega
        have hc9 := c.toNat_lt
        obtain ⟨K, hK⟩ : ∃ K : Nat, K = min rest.length (c.toNat + 1) := ⟨_, rfl⟩
        have m1 : min (rest.length : Int) ((c.toNat : Int) + 1) = (K : Int) := by omega
        have hK1 : 1 ≤ K ∧ K ≤ rest.length := by have := List.length_pos_iff.2 hr; omega
        clear hK hcc hc hblt
        have hKl : (rest.take K).length = K := by rw [List.length_take]; omega
        have hk0 : (0 : Int) ≤ (K : Int) := by omega
        have hk9 : (K : Int) ≤ rest.length := by omega
        have hdl : (rest.drop K).length = rest.length - K := List.length_drop
        have m12 : ∀ w, (Instr.slice 9 (.string ⟨rest.toArray⟩) none (some (.int .i64 (K : Int))) none).run Tryz.prog w = .ok (.string ⟨(rest.take K).toArray⟩) w := fun w => by go_simp
        have hnl := num16_len K (by omega)
        have HNk := Lib.hid (HN.out K (by omega))
        have HCn := Lib.hid (chunks_snoc ds (rest.take K))
        rw [hKl] at HCn
        have HFl := Lib.hid (show body = (ds ++ [rest.take K]).flatten ++ rest.drop K by rw [HB.out]; simp)
        have HDn := Lib.hid (show ∀ d ∈ ds ++ [rest.take K], d ≠ [] from fun d hd => by
          rcases List.mem_append.1 hd with hd | hd
          · exact HD.out d hd
          · rw [List.mem_singleton.1 hd]
            intro e
            rw [e] at hKl
            simp at hKl
            omega)
        have HIl := Lib.hid (show (ds ++ [rest.take K]).length = ds.length + 1 by simp)
        clear HB HD HN
        generalize numB 16 K = NB at *
        generalize ds.flatMap chunkOf = CH at *
        go_wp2_with fail
        go_quiet ((go_at_call 15; exact quiet0 (HNk.out _)))
        go_wp2_with fail
        go_roundw
        case rel => exact ⟨ds ++ [rest.take K], rest.drop K, by rw [HCn.out]; simp, rfl, by rw [HIl.out]; go_num, HFl.out, HDn.out, below_draws hb _⟩
        case measure => simp only [strN_mk]; omega
      · by_cases hi1 : (ds.length : Int) < cuts.length
        · have hi2 : ¬ (ds.length : Int) < 100 := by omega
          have hnl := num16_len rest.length (by omega)
          have HNk := Lib.hid (HN.out rest.length (by omega))
          have HCn := Lib.hid (chunks_snoc ds rest)
          have HFl := Lib.hid (show body = (ds ++ [rest]).flatten ++ [] by rw [HB.out]; simp)
          have HDn := Lib.hid (show ∀ d ∈ ds ++ [rest], d ≠ [] from fun d hd => by
            rcases List.mem_append.1 hd with hd | hd
            · exact HD.out d hd
            · rw [List.mem_singleton.1 hd]; exact hr)
          have HIl := Lib.hid (show (ds ++ [rest]).length = ds.length + 1 by simp)
          have m12 : ∀ w, (Instr.slice 9 (.string ⟨rest.toArray⟩) none (some (.int .i64 (rest.length : Int))) none).run Tryz.prog w = .ok (.string ⟨rest.toArray⟩) w := fun w => by go_simp
          clear HB HD HN hr
          generalize numB 16 rest.length = NB at *
          generalize ds.flatMap chunkOf = CH at *
          go_wp2_with fail
          go_quiet ((go_at_call 15; exact quiet0 (HNk.out _)))
          go_wp2_with fail
          go_roundw
          case rel => exact ⟨ds ++ [rest], [], by rw [HCn.out]; simp, rfl, by rw [HIl.out]; go_num, HFl.out, HDn.out, below_draws hb _⟩
          case measure => show (0 : Nat) < rest.length; omega
        · skip
          have hnl := num16_len rest.length (by omega)
          have HNk := Lib.hid (HN.out rest.length (by omega))
          have HCn := Lib.hid (chunks_snoc ds rest)
          have HFl := Lib.hid (show body = (ds ++ [rest]).flatten ++ [] by rw [HB.out]; simp)
          have HDn := Lib.hid (show ∀ d ∈ ds ++ [rest], d ≠ [] from fun d hd => by
            rcases List.mem_append.1 hd with hd | hd
            · exact HD.out d hd
            · rw [List.mem_singleton.1 hd]; exact hr)
          have HIl := Lib.hid (show (ds ++ [rest]).length = ds.length + 1 by simp)
          have m12 : ∀ w, (Instr.slice 9 (.string ⟨rest.toArray⟩) none (some (.int .i64 (rest.length : Int))) none).run Tryz.prog w = .ok (.string ⟨rest.toArray⟩) w := fun w => by go_simp
          clear HB HD HN hr
          generalize numB 16 rest.length = NB at *
          generalize ds.flatMap chunkOf = CH at *
          go_wp2_with fail
          go_quiet ((go_at_call 15; exact quiet0 (HNk.out _)))
          go_wp2_with fail
          go_roundw
          case rel => exact ⟨ds ++ [rest], [], by rw [HCn.out]; simp, rfl, by rw [HIl.out]; go_num, HFl.out, HDn.out, below_draws hb _⟩
          case measure => show (0 : Nat) < rest.length; omega
end Go.Proofs.YtlkbfehdiopkbaaGreatDoor

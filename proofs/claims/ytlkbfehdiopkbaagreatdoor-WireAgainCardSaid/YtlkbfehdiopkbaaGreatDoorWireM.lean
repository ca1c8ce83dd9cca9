/-
  The walk of the statement on requests written anew. Conditions: the bound; what the listed variables hold.
-/
import Derived.Test.YtlkbfehdiopkbaaGreatDoorWireK
import Derived.Test.YtlkbfehdiopkbaaGreatDoorWireL
namespace Go.Proofs.YtlkbfehdiopkbaaGreatDoor
set_option linter.unusedVariables false
set_option linter.unusedSimpArgs false
open Go.RowKit

def againT (q : ReqT) (l : List HdrT) : List UInt8 := firstL q.method q.target ++ 13 :: 10 :: hText (l.map againL)
def sizA (l : List HdrT) : Nat := (l.map fun h => h.name.length + h.value.length + 5).sum
theorem sizA_is (l : List HdrT) : hSize (l.map againL) = sizA l := by
  unfold hSize sizA
  rw [List.map_map]
  congr 1
  refine List.map_congr_left fun h _ => ?_
  show (capS h.name ++ 58 :: 32 :: 32 :: h.value).length + 2 = _
  unfold capS
  simp only [List.length_append, List.length_map, List.length_cons]
  omega
theorem sizA_snoc (l : List HdrT) (h : HdrT) : sizA (l ++ [h]) = sizA l + (h.name.length + h.value.length + 5) := by
  unfold sizA
  simp
theorem againT_snoc (q : ReqT) (l : List HdrT) (h : HdrT) : againT q (l ++ [h]) = againT q l ++ (capS h.name ++ ([58, 32, 32] ++ (h.value ++ [13, 10]))) := by
  unfold againT hText againL
  simp
theorem chunked_snoc (l : List HdrT) (h : HdrT) : isChunked (l ++ [h]) = (isChunked l || decide (h.name = wCoding)) := by
  unfold isChunked
  simp
theorem againS_is (q : ReqT) : againS q = againT q q.hdrs ++ ([13, 10] ++ bodyA q.hdrs q.body) := by
  unfold againS againT
  simp
theorem againT_len (q : ReqT) (l : List HdrT) : (againT q l).length = q.method.length + q.target.length + 12 + sizA l := by
  have h1 : (hText (l.map againL)).length = hSize (l.map againL) := by
    unfold hText hSize
    rw [List.length_flatMap]
    congr 1
    refine List.map_congr_left fun h _ => ?_
    simp
  unfold againT firstL
  simp only [List.length_append, List.length_cons, h1, sizA_is]
  simp [vHttp]
  omega
theorem againT_nil (q : ReqT) : againT q [] = q.method ++ ([32] ++ (q.target ++ [32, 72, 84, 84, 80, 47, 49, 46, 49, 13, 10])) := by
  unfold againT firstL hText vHttp
  simp
theorem body_bound {hs : List HdrT} {s b r : List UInt8} (h : bodyS hs s = .ok (b, r)) : b.length ≤ 8192 := by
  unfold bodyS at h
  by_cases h0 : (vals hs wHost).length ≠ 1 ∨ (vals hs wCoding ≠ [] ∧ vals hs wLength ≠ [])
  · rw [if_pos h0] at h; cases h
  · rw [if_neg h0] at h
    rcases hv : vals hs wCoding with _ | ⟨c, _ | ⟨c2, cs⟩⟩
    · rw [hv] at h
      simp only at h
      rcases hw : vals hs wLength with _ | ⟨v, _ | ⟨v2, vs⟩⟩
      · rw [hw] at h
        injection h with h
        injection h with h _
        rw [← h]; exact Nat.zero_le _
      · rw [hw] at h
        simp only at h
        split at h
        · cases h
        · split at h
          · cases h
          · rename_i h8
            unfold takeS at h
            split at h
            · cases h
            · injection h with h
              injection h with h _
              rw [← h, List.length_take]; omega
      · rw [hw] at h; cases h
    · rw [hv] at h
      simp only at h
      split at h
      · exact chunks_bound _ _ _ _ _ (Nat.zero_le _) h
      · cases h
    · rw [hv] at h; cases h
theorem hdrOf_size {l : List UInt8} {h : HdrT} (hh : hdrOf l = some h) : h.name.length + h.value.length ≤ l.length := by
  unfold hdrOf at hh
  split at hh
  · cases hh
  · rename_i n v hc
    split at hh
    · injection hh with hh
      subst hh
      have := cut_len hc
      have h2 := trim_len v
      rw [this]
      unfold lowS
      simp only [List.length_append, List.length_singleton, List.length_map]
      omega
    · cases hh
theorem headS_size : ∀ (f sz : Nat) (hs hs' : List HdrT) (s r : List UInt8), headS f sz hs s = .ok (hs', r) → (∀ h ∈ hs, h.name.length + h.value.length ≤ 1024) → ∀ h ∈ hs', h.name.length + h.value.length ≤ 1024
  | 0, sz, hs, hs', s, r, h, hg => by
    rw [headS] at h
    obtain ⟨l, q, -, h⟩ := thenS_ok h
    split at h
    · injection h with h
      injection h with h
      subst h
      exact hg
    · cases h
  | f + 1, sz, hs, hs', s, r, h, hg => by
    rw [headS] at h
    obtain ⟨l, q, hl, h⟩ := thenS_ok h
    split at h
    · injection h with h
      injection h with h
      subst h
      exact hg
    · split at h
      · cases h
      · cases ho : hdrOf l with
        | none => rw [ho] at h; cases h
        | some x =>
          rw [ho] at h
          exact headS_size f _ _ _ _ _ h (fun y hy => by
            rcases List.mem_append.1 hy with hy | hy
            · exact hg y hy
            · rw [List.mem_singleton.1 hy]; exact Nat.le_trans (hdrOf_size ho) (lineS_ok hl).2.2.2)
theorem readW_size {s r : List UInt8} {q : ReqT} (h : readW s = .ok (q, r)) : ∀ x ∈ q.hdrs, x.name.length + x.value.length ≤ 1024 := by
  rw [readW_begin] at h
  obtain ⟨mt, r1, -, h⟩ := thenS_ok h
  obtain ⟨hs, r2, hh, h⟩ := thenS_ok h
  obtain ⟨b, r3, -, h⟩ := thenS_ok h
  injection h with h
  injection h with h _
  rw [← h]
  exact headS_size _ _ _ _ _ _ hh (fun x hx => by cases hx)
theorem cap_len (s : List UInt8) : (capS s).length = s.length := List.length_map ..
theorem cap_next {s q : List UInt8} {k : Nat} {x : UInt8} (hd : s.drop k = x :: q) : (capS (s.take k) ++ x :: q).set k (capC x) = capS (s.take (k + 1)) ++ q := by
  obtain ⟨hlt, hx, -⟩ := drop_consA hd
  have hl : (capS (s.take k)).length = k := by rw [cap_len, List.length_take]; omega
  rw [List.set_append_right _ _ (by omega), hl, Nat.sub_self, List.set_cons_zero, List.take_add_one, hx]
  unfold capS
  simp
theorem cap_at {s q : List UInt8} {k : Nat} {x : UInt8} (hd : s.drop k = x :: q) : (capS (s.take k) ++ x :: q)[k]? = some x ∧ k < (capS (s.take k) ++ x :: q).length := by
  obtain ⟨hlt, hx, -⟩ := drop_consA hd
  have hl : (capS (s.take k)).length = k := by rw [cap_len, List.length_take]; omega
  refine ⟨?_, by rw [List.length_append, hl, List.length_cons]; omega⟩
  rw [List.getElem?_append_right (by omega), hl, Nat.sub_self]
  rfl
theorem capC_up (x : UInt8) (h : 97 ≤ (x.toNat : Int)) (h2 : (x.toNat : Int) ≤ 122) : ((capC x).toNat : Int) = (x.toNat : Int) - 32 := by
  have : (!(decide (97 ≤ x.toNat ∧ x.toNat ≤ 122)) || decide ((capC x).toNat + 32 = x.toNat)) = true := u8_all (fun x => !(decide (97 ≤ x.toNat ∧ x.toNat ≤ 122)) || decide ((capC x).toNat + 32 = x.toNat)) (by decide +kernel) x
  have h3 : decide (97 ≤ x.toNat ∧ x.toNat ≤ 122) = true := decide_eq_true ⟨by omega, by omega⟩
  rw [h3] at this
  have := of_decide_eq_true this
  omega
theorem capC_id (x : UInt8) (h : ¬ (97 ≤ (x.toNat : Int) ∧ (x.toNat : Int) ≤ 122)) : capC x = x := by
  unfold capC
  rw [if_neg (by omega)]
theorem InQ.draws {w wx : World} {b : Nat} {q : ReqT} {hv : Value} (h : InQ w b wx q hv) (n : Nat) : InQ w b (wx.drewN n) q hv := ⟨h.row, h.hh, ⟨h.bel.os, h.bel.tape, h.bel.output, h.bel.size, h.bel.block⟩⟩
set_option maxHeartbeats 8000000 in
set_option maxRecDepth 100000 in
set_option linter.unusedSimpArgs false in
theorem law_again (buf : List UInt8) (w : World) (hl : buf.length ≤ 9223372036854775807) (hE : Env w) :
    Calls Tryz.prog 6 #[.string ⟨buf.toArray⟩] w (Ret (.bool true) w) := by
  have HFx := Lib.hid (fixed11_any w hE)
  have HR1 := Lib.hid (fun w' (hb : Below w.heap.size w w') => wread_big buf w' hl (hE.below hb))
  have HR2 := Lib.hid (fun t w' (hb : Below w.heap.size w w') (ht : t.length ≤ 100000000) => wread_any t w' ht (hE.below hb))
  rcases hx : readW buf with st | ⟨q, r⟩
  · have hst : ¬ st = 0 := by rcases readW_stats _ _ hx with h | h <;> omega
    rw [hx] at HR1
    clear hx
    go_enter Tryz.func6, Tryz.ntmps6
    go_wp2_with fail
    refine HFx.out.mono ?_
    rintro e w1 ⟨rfl, hb1⟩
    clear HFx
    go_wp2_with fail
    refine (HR1.out w1 hb1).mono ?_
    rintro e w2 ⟨hb2, rfl⟩
    have hbl := (hb1.trans (hb2.mono hb1.size)).alloc (hb1.trans (hb2.mono hb1.size)).size (.cells #[.string ⟨#[]⟩, .string ⟨#[]⟩, .slice none 0 0, .string ⟨#[]⟩, .bool false] 26 (0, 0))
    unfold zeroQ
    clear hb1 hb2
    go_wp2
    go_ret
    exact ⟨rfl, hbl⟩
  rw [hx] at HR1
  have HX := Lib.hid hx
  clear hx
  obtain ⟨m, t, hdrs, body, cl⟩ := q
  go_enter Tryz.func6, Tryz.ntmps6
  go_wp2_with fail
  refine HFx.out.mono ?_
  rintro e w1 ⟨rfl, hb1⟩
  clear HFx
  go_wp2_with fail
  refine (HR1.out w1 hb1).mono ?_
  rintro e w2 ⟨hb2, v1, rfl, ho⟩
  have hh1 := own_hdrs ho
  have hh1' := hh1
  obtain ⟨A1, k1, rfl, -, -, -⟩ := hh1'
  unfold reqV
  simp only at *
  have I2 := InQ.mk' (q := ⟨m, t, hdrs, body, cl⟩) (hb1.trans (hb2.mono hb1.size)) hh1 _ rfl
  simp only at I2
  have HI := Lib.hid I2
  clear I2 hb1 hb2 hh1 HR1 ho
  by_cases ht : (900 : Int) < t.length
  · have hbl := HI.out.bel
    clear HI
    go_wp2
    go_ret
    exact ⟨rfl, hbl⟩
  by_cases hm : (80 : Int) < m.length
  · have hbl := HI.out.bel
    clear HI
    go_wp2
    go_ret
    exact ⟨rfl, hbl⟩
  have HSz := Lib.hid (readW_size HX.out)
  have HPa := Lib.hid (readW_parts HX.out)
  have HBl := Lib.hid (body_bound HPa.out.2.2.2.2.2.1.choose_spec)
  simp only at HSz HPa HBl
  have hn32 : hdrs.length ≤ 32 := HPa.out.2.2.2.1
  have hz0 : sizA [] = 0 := rfl
  go_wp2_with fail
  generalize w2.heap.size = p at *
  generalize w2.alloc (.cells #[.string ⟨m.toArray⟩, .string ⟨t.toArray⟩, .slice A1 hdrs.length k1, .string ⟨body.toArray⟩, .bool cl] 26 (0, 0)) = wS at *
  go_loopw [6, 7, 8, 9] (fun tv cv zv iv wr => ∃ k : Nat, k ≤ hdrs.length ∧ tv = .string ⟨(againT ⟨m, t, hdrs, body, cl⟩ (hdrs.take k)).toArray⟩ ∧ cv = .bool (isChunked (hdrs.take k)) ∧ zv = .int .i64 (sizA (hdrs.take k)) ∧ iv = .int .i64 k ∧ Below wS.heap.size wS wr ∧ Hid (∀ h ∈ hdrs.take k, h.name.length + h.value.length ≤ 1000) ∧ sizA (hdrs.take k) ≤ 4000) (fun _ _ _ iv _ => hdrs.length - (intOf iv).toNat)
  case atStart =>
    refine ⟨0, Nat.zero_le _, ?_, rfl, rfl, rfl, Below.refl _ _, Lib.hid (fun h hm => by cases hm), Nat.zero_le _⟩
    rw [List.take_zero, againT_nil]
    simp
  case round =>
    obtain ⟨k, hk, rfl, rfl, rfl, rfl, hb, H1, hz⟩ := hrel
    rcases Nat.lt_or_ge k hdrs.length with hlt | hge
    · obtain ⟨x, hx⟩ : ∃ x, hdrs[k]? = some x := ⟨_, List.getElem?_eq_getElem hlt⟩
      have hsnoc : hdrs.take (k + 1) = hdrs.take k ++ [x] := by rw [List.take_add_one, hx]; rfl
      have hxs := HSz.out x (List.mem_of_getElem? hx)
      have I := HI.out.keep hb
      have C2 := at5 I.row 2
      simp only [List.getElem?_toArray, List.getElem?_cons_zero, List.getElem?_cons_succ] at C2
      obtain ⟨A', cap', hva, _, _, hac⟩ := I.hh.at
      injection hva with e1 e2 e3
      subst e1 e3
      clear e2
      obtain ⟨b, o, rfl, hbl, e0, e1⟩ := hac k x hx
      clear hac I
      have f1 : (k : Int) < hdrs.length := by omega
      have f2 : (0 : Int) ≤ k := by omega
      have hcv := conv_string (wr.alloc (.cells #[.string ⟨x.name.toArray⟩, .string ⟨x.value.toArray⟩] 38 (0, 0))) x.name
      have hb0 := bytes_below (wr.alloc (.cells #[.string ⟨x.name.toArray⟩, .string ⟨x.value.toArray⟩] 38 (0, 0))) x.name
      have hw0 := bytes_bw (wr.alloc (.cells #[.string ⟨x.name.toArray⟩, .string ⟨x.value.toArray⟩] 38 (0, 0))) x.name
      have hgs : (wr.alloc (.cells #[.string ⟨x.name.toArray⟩, .string ⟨x.value.toArray⟩] 38 (0, 0))).heap.size = wr.heap.size + 1 := World.size_alloc ..
      have hba : Below wr.heap.size wr (wr.alloc (.cells #[.string ⟨x.name.toArray⟩, .string ⟨x.value.toArray⟩] 38 (0, 0))) := (Below.refl _ _).alloc (Nat.le_refl _) _
      have n0 := cell_new wr #[.string ⟨x.name.toArray⟩, .string ⟨x.value.toArray⟩] 38 0
      have n1 := cell_new wr #[.string ⟨x.name.toArray⟩, .string ⟨x.value.toArray⟩] 38 1
      rw [hgs] at hcv hb0 hw0
      replace n0 := (hb0.cell (p := ⟨wr.heap.size, 0, none⟩) (Nat.lt_succ_self _)).trans n0
      replace n1 := (hb0.cell (p := ⟨wr.heap.size, 1, none⟩) (Nat.lt_succ_self _)).trans n1
      have hc1 := grownCap_ge (wr.alloc (.cells #[.string ⟨x.name.toArray⟩, .string ⟨x.value.toArray⟩] 38 (0, 0))) x.name.length 0 5
      have hc2 := grownCap_le_maxLen (wr.alloc (.cells #[.string ⟨x.name.toArray⟩, .string ⟨x.value.toArray⟩] 38 (0, 0))) x.name.length 0 5 (by unfold maxLen; omega)
      generalize grownCap (wr.alloc (.cells #[.string ⟨x.name.toArray⟩, .string ⟨x.value.toArray⟩] 38 (0, 0))) x.name.length 0 5 = cap at *
      generalize Lib.bytesWorld (wr.alloc (.cells #[.string ⟨x.name.toArray⟩, .string ⟨x.value.toArray⟩] 38 (0, 0))) 5 ⟨x.name.toArray⟩ = wb at *
      go_wp2_with fail
      have HW0 := Lib.hid hw0
      have HB0 := Lib.hid (hb.trans ((hba.trans (hb0.mono (Nat.le_succ _))).mono hb.size))
      have HN0 := Lib.hid n0
      have HN1 := Lib.hid n1
      clear hcv hb0 hw0 hgs hba n0 n1 C2 e0 e1 hbl
      have hGs := hb.size
      generalize wr.heap.size = G at *
      go_loopw [12] (fun jv wi => ∃ j : Nat, j ≤ x.name.length ∧ jv = .int .i64 j ∧ BW wi (G + 1) (capS (x.name.take j) ++ x.name.drop j) ∧ Below (G + 1) wb wi) (fun jv _ => x.name.length - (intOf jv).toNat)
      case atStart => exact ⟨0, Nat.zero_le _, rfl, by simpa [capS] using HW0.out, Below.refl _ _⟩
      case round =>
        obtain ⟨j, hj, rfl, hbw, hbr⟩ := hrel
        clear HW0
        rcases hd : x.name.drop j with _ | ⟨y, yq⟩
        · have hj2 : j = x.name.length := by have := drop_nil hd; omega
          rw [hd, List.append_nil, List.take_of_length_le (by omega)] at hbw
          subst hj2
          clear hd hj
          have hcl := cap_len x.name
          have hcv2 := conv_bytes wr (.slice (some ⟨G + 1, 0, none⟩) (capS x.name).length cap) (capS x.name) (hbw.rd cap (by omega) hc2)
          rw [hcl] at hcv2
          have d0 := (hbr.cell (p := ⟨G, 0, none⟩) (Nat.lt_succ_self _)).trans HN0.out
          have d1 := (hbr.cell (p := ⟨G, 1, none⟩) (Nat.lt_succ_self _)).trans HN1.out
          simp only [List.getElem?_toArray, List.getElem?_cons_zero, List.getElem?_cons_succ] at d0 d1
          have HBn := Lib.hid (HB0.out.trans (hbr.mono (Nat.le_trans hGs (Nat.le_succ _))))
          have hTl := againT_len ⟨m, t, hdrs, body, cl⟩ (hdrs.take k)
          simp only at hTl
          have HTn := Lib.hid (againT_snoc ⟨m, t, hdrs, body, cl⟩ (hdrs.take k) x)
          have HZn := Lib.hid (sizA_snoc (hdrs.take k) x)
          have HCn := Lib.hid (chunked_snoc (hdrs.take k) x)
          rw [← hsnoc] at HTn HZn HCn
          have H1n := Lib.hid (show x.name.length + x.value.length ≤ 1000 → ∀ h ∈ hdrs.take (k + 1), h.name.length + h.value.length ≤ 1000 from fun hle h hm => by
            rw [hsnoc] at hm
            rcases List.mem_append.1 hm with hm | hm
            · exact H1.out h hm
            · rw [List.mem_singleton.1 hm]; exact hle)
          clear hbw hbr HB0 HN0 HN1 H1 hx
          generalize againT ⟨m, t, hdrs, body, cl⟩ (hdrs.take k) = T at *
          generalize sizA (hdrs.take k) = Z at *
          generalize isChunked (hdrs.take k) = C at *
          by_cases g1 : (1000 : Int) < (x.name.length : Int) + x.value.length
          · go_wp2
            go_ret
            exact ⟨rfl, HI.out.bel.trans (HBn.out.mono HI.out.bel.size)⟩
          by_cases g2 : (4000 : Int) < (Z : Int) + ((x.name.length : Int) + x.value.length + 5)
          · go_wp2
            go_ret
            exact ⟨rfl, HI.out.bel.trans (HBn.out.mono HI.out.bel.size)⟩
          have hZ4 : Z + (x.name.length + x.value.length + 5) ≤ 4000 := by omega
          have HL := Lib.hid (H1n.out (by omega))
          have HZe := Lib.hid (show sizA (hdrs.take (k + 1)) ≤ 4000 by rw [HZn.out]; exact hZ4)
          clear H1n
          have hk1 : k + 1 ≤ hdrs.length := hlt
          cases C
          · have HC2 := Lib.hid (show isChunked (hdrs.take (k + 1)) = (x.name == [116, 114, 97, 110, 115, 102, 101, 114, 45, 101, 110, 99, 111, 100, 105, 110, 103]) by
              rw [HCn.out, Bool.false_or, Bool.eq_iff_iff, decide_eq_true_iff, beq_iff_eq]; rfl)
            clear HCn
            go_wp2
            go_roundw
            case rel => exact ⟨k + 1, hk1, by rw [HTn.out]; simp, by rw [HC2.out], by rw [HZn.out]; go_num, by go_num, HBn.out, HL, HZe.out⟩
            case measure => simp [intOf]; omega
          · have HC2 := Lib.hid (show isChunked (hdrs.take (k + 1)) = true by rw [HCn.out]; rfl)
            clear HCn
            go_wp2
            go_roundw
            case rel => exact ⟨k + 1, hk1, by rw [HTn.out]; simp, by rw [HC2.out], by rw [HZn.out]; go_num, by go_num, HBn.out, HL, HZe.out⟩
            case measure => simp [intOf]; omega
        · obtain ⟨hjl, hy, hyq⟩ := drop_cons hd
          rw [hd] at hbw
          obtain ⟨hat, hal⟩ := cap_at hd
          obtain ⟨hc, hf⟩ := hbw.2 j y hat
          have HSet := Lib.hid (hbw.set j (capC y) hal)
          rw [cap_next hd] at HSet
          have HBW := Lib.hid hbw
          have Hq := Lib.hid hyq
          have Hd := Lib.hid hd
          have hki : (j : Int) < x.name.length := by omega
          have hk0 : (0 : Int) ≤ (j : Int) := by omega
          clear hd hyq hat hal hy hbw
          by_cases a1 : 97 ≤ (y.toNat : Int)
          · by_cases a2 : (y.toNat : Int) ≤ 122
            · have hlu : ((capC y).toNat : Int) = (y.toNat : Int) - 32 := capC_up y a1 a2
              rw [hlu] at HSet
              clear hlu
              go_wp2
              go_roundw
              case rel => exact ⟨j + 1, by omega, by go_num, by rw [Hq.out]; exact HSet.out, hbr.setCell (Nat.le_refl _) _⟩
              case measure => simp [intOf]; omega
            · have H2 := Lib.hid (show BW wr (G + 1) (capS (x.name.take (j + 1)) ++ yq) by
                have := cap_next Hd.out
                rw [capC_id y (by omega), set_same' (cap_at Hd.out).1] at this
                rw [← this]; exact HBW.out)
              clear HSet HBW
              go_wp2
              go_roundw
              case rel => exact ⟨j + 1, by omega, by go_num, by rw [Hq.out]; exact H2.out, hbr⟩
              case measure => simp [intOf]; omega
          · have H2 := Lib.hid (show BW wr (G + 1) (capS (x.name.take (j + 1)) ++ yq) by
              have := cap_next Hd.out
              rw [capC_id y (by omega), set_same' (cap_at Hd.out).1] at this
              rw [← this]; exact HBW.out)
            clear HSet HBW
            go_wp2
            go_roundw
            case rel => exact ⟨j + 1, by omega, by go_num, by rw [Hq.out]; exact H2.out, hbr⟩
            case measure => simp [intOf]; omega
    · obtain rfl : k = hdrs.length := by omega
      rw [List.take_length] at H1 hz ⊢
      have I := HI.out.keep hb
      have C2 := at5 I.row 2
      have C3 := at5 I.row 3
      simp only [List.getElem?_toArray, List.getElem?_cons_zero, List.getElem?_cons_succ] at C2 C3
      have HI5 := Lib.hid I
      have HAg := Lib.hid (read_again HX.out (by simp only; omega) (by simp only; omega) H1.out (by simp only; rw [sizA_is]; omega) [71, 69, 84])
      have HAs := Lib.hid (againS_is ⟨m, t, hdrs, body, cl⟩)
      have hTl := againT_len ⟨m, t, hdrs, body, cl⟩ hdrs
      simp only at hTl HAs
      have HBA := Lib.hid (show bodyA hdrs body = _ from rfl)
      unfold bodyA at HBA HAs
      have hbl8 := HBl.out
      clear hge hk H1 HI hb I
      generalize againT ⟨m, t, hdrs, body, cl⟩ hdrs = T at *
      generalize againS ⟨m, t, hdrs, body, cl⟩ = AS at *
      cases hC : isChunked hdrs
      · rw [hC] at HAs
        clear hC
        go_wp2_with fail
        have hX : readW (T ++ 13 :: 10 :: (body ++ [71, 69, 84])) = .ok (⟨m, t, hdrs, body, cl⟩, [71, 69, 84]) := by
          have := HAg.out
          rw [HAs.out] at this
          simpa using this
        have HRX := HR2.out (T ++ 13 :: 10 :: (body ++ [71, 69, 84])) wr HI5.out.bel (by simp; omega)
        rw [hX] at HRX
        clear hX HR2 HAg HAs
        refine HRX.mono ?_
        rintro e w3 ⟨hb3, v2, rfl, ho2⟩
        have hh2 := own_hdrs ho2
        have hh2' := hh2
        obtain ⟨A2, k2, rfl, -, -, -⟩ := hh2'
        have hn : ((((T ++ 13 :: 10 :: (body ++ [71, 69, 84])) : List UInt8).length : Int) - ([71, 69, 84] : List UInt8).length) = (((T ++ 13 :: 10 :: body) : List UInt8).length : Int) := by simp; omega
        rw [hn]
        unfold reqV
        simp only at hh2 ⊢
        have K3 := HI5.out.keep hb3
        have D0 := at5 K3.row 0
        have D1 := at5 K3.row 1
        have D2 := at5 K3.row 2
        have D3 := at5 K3.row 3
        have D4 := at5 K3.row 4
        simp only [List.getElem?_toArray, List.getElem?_cons_zero, List.getElem?_cons_succ] at D0 D1 D2 D3 D4
        have hp3 := K3.lt
        have hHS := wsame_any ⟨m, t, hdrs, body, cl⟩ _ _ _ (InQ.mk' (q := ⟨m, t, hdrs, body, cl⟩) K3.bel hh2 _ rfl).hh (K3.alloc (.cells #[.string ⟨m.toArray⟩, .string ⟨t.toArray⟩, .slice A2 hdrs.length k2, .string ⟨body.toArray⟩, .bool cl] 26 (0, 0))).hh
        have HB := Lib.hid (K3.alloc (.cells #[.string ⟨m.toArray⟩, .string ⟨t.toArray⟩, .slice A2 hdrs.length k2, .string ⟨body.toArray⟩, .bool cl] 26 (0, 0))).bel
        unfold reqV at hHS
        simp only at hHS
        have HHS := Lib.hid hHS
        clear hHS K3 hh2 ho2 hb3 HRX hn
        go_wp2_with fail
        refine HHS.out.mono ?_
        rintro e w4 ⟨rfl, hb4⟩
        have hbl := HB.out.trans (hb4.mono HB.out.size)
        clear HHS HB hb4 D0 D1 D2 D3 D4
        go_wp2
        go_ret
        exact ⟨rfl, hbl⟩
      · rw [hC] at HAs
        clear hC
        by_cases hbe : body = []
        · subst hbe
          go_wp2_with fail
          have hX : readW (T ++ [13, 10, 48, 13, 10, 13, 10, 71, 69, 84]) = .ok (⟨m, t, hdrs, [], cl⟩, [71, 69, 84]) := by
            have := HAg.out
            rw [HAs.out] at this
            simpa using this
          have HRX := HR2.out (T ++ [13, 10, 48, 13, 10, 13, 10, 71, 69, 84]) wr HI5.out.bel (by simp; omega)
          rw [hX] at HRX
          clear hX HR2 HAg HAs
          refine HRX.mono ?_
          rintro e w3 ⟨hb3, v2, rfl, ho2⟩
          have hh2 := own_hdrs ho2
          have hh2' := hh2
          obtain ⟨A2, k2, rfl, -, -, -⟩ := hh2'
          have hn : ((((T ++ [13, 10, 48, 13, 10, 13, 10, 71, 69, 84]) : List UInt8).length : Int) - ([71, 69, 84] : List UInt8).length) = (((T ++ [13, 10, 48, 13, 10, 13, 10]) : List UInt8).length : Int) := by simp; omega
          rw [hn]
          unfold reqV
          simp only at hh2 ⊢
          have K3 := HI5.out.keep hb3
          have D0 := at5 K3.row 0
          have D1 := at5 K3.row 1
          have D2 := at5 K3.row 2
          have D3 := at5 K3.row 3
          have D4 := at5 K3.row 4
          simp only [List.getElem?_toArray, List.getElem?_cons_zero, List.getElem?_cons_succ] at D0 D1 D2 D3 D4
          have hp3 := K3.lt
          have hHS := wsame_any ⟨m, t, hdrs, [], cl⟩ _ _ _ (InQ.mk' (q := ⟨m, t, hdrs, [], cl⟩) K3.bel hh2 _ rfl).hh (K3.alloc (.cells #[.string ⟨m.toArray⟩, .string ⟨t.toArray⟩, .slice A2 hdrs.length k2, .string ⟨#[]⟩, .bool cl] 26 (0, 0))).hh
          have HB := Lib.hid (K3.alloc (.cells #[.string ⟨m.toArray⟩, .string ⟨t.toArray⟩, .slice A2 hdrs.length k2, .string ⟨#[]⟩, .bool cl] 26 (0, 0))).bel
          unfold reqV at hHS
          simp only at hHS
          have HHS := Lib.hid hHS
          clear hHS K3 hh2 ho2 hb3 HRX hn
          go_wp2_with fail
          refine HHS.out.mono ?_
          rintro e w4 ⟨rfl, hb4⟩
          have hbl := HB.out.trans (hb4.mono HB.out.size)
          clear HHS HB hb4 D0 D1 D2 D3 D4
          go_wp2
          go_ret
          exact ⟨rfl, hbl⟩
        · have hb0 : (0 : Int) < body.length := by have := List.length_pos_iff.2 hbe; omega
          have HN : ∀ w, Calls Tryz.prog 15 #[.int .i64 (body.length : Int), .int .i64 16] w (Same0 (.string ⟨(numB 16 body.length).toArray⟩) w) := fun w => number_any 16 (.inr rfl) body.length w (by omega)
          have hnl := num16_len body.length (by omega)
          rw [if_neg hbe] at HAs
          clear hbe
          have HNh := Lib.hid HN
          clear HN
          generalize numB 16 body.length = NB at *
          go_wp2_with fail
          go_quiet ((go_at_call 15; exact quiet0 (HNh.out _)))
          go_wp2_with fail
          have HID := Lib.hid (HI5.out.draws nq)
          have hX : readW (T ++ 13 :: 10 :: (NB ++ 13 :: 10 :: (body ++ [13, 10, 48, 13, 10, 13, 10, 71, 69, 84]))) = .ok (⟨m, t, hdrs, body, cl⟩, [71, 69, 84]) := by
            have := HAg.out
            rw [HAs.out] at this
            simpa using this
          have HRX := HR2.out (T ++ 13 :: 10 :: (NB ++ 13 :: 10 :: (body ++ [13, 10, 48, 13, 10, 13, 10, 71, 69, 84]))) (wr.drewN nq) HID.out.bel (by simp; omega)
          rw [hX] at HRX
          clear hX HR2 HAg HAs
          refine HRX.mono ?_
          rintro e w3 ⟨hb3, v2, rfl, ho2⟩
          have hh2 := own_hdrs ho2
          have hh2' := hh2
          obtain ⟨A2, k2, rfl, -, -, -⟩ := hh2'
          have hn : ((((T ++ 13 :: 10 :: (NB ++ 13 :: 10 :: (body ++ [13, 10, 48, 13, 10, 13, 10, 71, 69, 84]))) : List UInt8).length : Int) - ([71, 69, 84] : List UInt8).length) = (((T ++ 13 :: 10 :: (NB ++ 13 :: 10 :: (body ++ [13, 10, 48, 13, 10, 13, 10]))) : List UInt8).length : Int) := by simp; omega
          rw [hn]
          unfold reqV
          simp only at hh2 ⊢
          have K3 := HID.out.keep hb3
          have D0 := at5 K3.row 0
          have D1 := at5 K3.row 1
          have D2 := at5 K3.row 2
          have D3 := at5 K3.row 3
          have D4 := at5 K3.row 4
          simp only [List.getElem?_toArray, List.getElem?_cons_zero, List.getElem?_cons_succ] at D0 D1 D2 D3 D4
          have hp3 := K3.lt
          have hHS := wsame_any ⟨m, t, hdrs, body, cl⟩ _ _ _ (InQ.mk' (q := ⟨m, t, hdrs, body, cl⟩) K3.bel hh2 _ rfl).hh (K3.alloc (.cells #[.string ⟨m.toArray⟩, .string ⟨t.toArray⟩, .slice A2 hdrs.length k2, .string ⟨body.toArray⟩, .bool cl] 26 (0, 0))).hh
          have HB := Lib.hid (K3.alloc (.cells #[.string ⟨m.toArray⟩, .string ⟨t.toArray⟩, .slice A2 hdrs.length k2, .string ⟨body.toArray⟩, .bool cl] 26 (0, 0))).bel
          unfold reqV at hHS
          simp only at hHS
          have HHS := Lib.hid hHS
          clear hHS K3 hh2 ho2 hb3 HRX hn
          go_wp2_with fail
          refine HHS.out.mono ?_
          rintro e w4 ⟨rfl, hb4⟩
          have hbl := HB.out.trans (hb4.mono HB.out.size)
          clear HHS HB hb4 D0 D1 D2 D3 D4
          go_wp2
          go_ret
          exact ⟨rfl, hbl⟩
end Go.Proofs.YtlkbfehdiopkbaaGreatDoor

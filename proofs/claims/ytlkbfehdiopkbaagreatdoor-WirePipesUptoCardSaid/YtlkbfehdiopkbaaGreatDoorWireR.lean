/-
  The walk of the statement on requests that come one behind the other. Conditions: the bounds; what the listed variables hold.
-/
import Derived.Test.YtlkbfehdiopkbaaGreatDoorWireQ
import Derived.Deep.RegionHeld3
namespace Go.Proofs.YtlkbfehdiopkbaaGreatDoor
set_option linter.unusedVariables false
set_option linter.unusedSimpArgs false
open Go.RowKit

theorem strs_at {w : World} {A : Option Addr} {n cap : Nat} {ls : List (List UInt8)} (h : Strs w (.slice A n cap) ls) {i : Nat} (hi : i < ls.length) : ∃ l b o, ls[i]? = some l ∧ A = some ⟨b, o, none⟩ ∧ b < w.heap.size ∧ w.cell? ⟨b, o + i, none⟩ = some (.string ⟨l.toArray⟩) := by
  obtain ⟨a, c, hv, -, -, hc⟩ := h
  injection hv with e1 e2 e3
  subst e1
  have hx := List.getElem?_eq_getElem hi
  obtain ⟨b, o, ha, hb, hcell⟩ := hc i _ hx
  exact ⟨_, b, o, hx, ha, hb, hcell⟩
theorem flat_snoc {ls : List (List UInt8)} {i : Nat} {l : List UInt8} (h : ls[i]? = some l) : (ls.take (i + 1)).flatten = (ls.take i).flatten ++ l := by
  rw [List.take_add_one, h, List.flatten_append]
  simp
theorem flat_drop {ls : List (List UInt8)} {i : Nat} {l : List UInt8} (h : ls[i]? = some l) : (ls.drop i).flatten = l ++ (ls.drop (i + 1)).flatten := by
  obtain ⟨hlt, he⟩ := List.getElem?_eq_some_iff.1 h
  rw [List.drop_eq_getElem_cons hlt, he]
  rfl
theorem flat_take_le (ls : List (List UInt8)) (i : Nat) : (ls.take i).flatten.length ≤ ls.flatten.length := by
  conv => rhs; rw [← List.take_append_drop i ls]
  rw [List.flatten_append, List.length_append]
  omega
theorem flat_drop_le (ls : List (List UInt8)) (i : Nat) : (ls.drop i).flatten.length ≤ ls.flatten.length := by
  conv => rhs; rw [← List.take_append_drop i ls]
  rw [List.flatten_append, List.length_append]
  omega
/-- all that holds in a round: the connection, and what was below. -/
structure InP (w : World) (c : Nat) (wr : World) (buf : List UInt8) : Prop where
  cn : CN wr c buf false
  bel : Below w.heap.size w wr
theorem InP.keep {w wr w' : World} {c : Nat} {buf : List UInt8} (h : InP w c wr buf) (hb : Below wr.heap.size wr w') : InP w c w' buf := ⟨h.cn.keep hb, h.bel.trans (hb.mono h.bel.size)⟩
/-- the cells of two requests, and what was below, in a region's worlds. -/
def PS (wX : World) (ba bq : Nat) (x0 x1 x2 x3 x4 y2 : Value) (w : World) : Prop :=
  w.cell? ⟨ba, 0, none⟩ = some x0 ∧ w.cell? ⟨ba, 1, none⟩ = some x1 ∧ w.cell? ⟨ba, 2, none⟩ = some x2 ∧ w.cell? ⟨ba, 3, none⟩ = some x3 ∧ w.cell? ⟨ba, 4, none⟩ = some x4 ∧
  w.cell? ⟨bq, 0, none⟩ = some x0 ∧ w.cell? ⟨bq, 1, none⟩ = some x1 ∧ w.cell? ⟨bq, 2, none⟩ = some y2 ∧ w.cell? ⟨bq, 3, none⟩ = some x3 ∧ w.cell? ⟨bq, 4, none⟩ = some x4 ∧ Below wX.heap.size wX w
theorem PS.keep {wX w1 w2 : World} {ba bq : Nat} {x0 x1 x2 x3 x4 y2 : Value} (h : PS wX ba bq x0 x1 x2 x3 x4 y2 w1) (hb : Below w1.heap.size w1 w2) : PS wX ba bq x0 x1 x2 x3 x4 y2 w2 := by
  have k : ∀ (p : Addr) v, w1.cell? p = some v → w2.cell? p = some v := fun p v hc => (hb.cell (World.block_lt_of_cell? w1 p hc)).trans hc
  obtain ⟨h0, h1, h2, h3, h4, h5, h6, h7, h8, h9, hB⟩ := h
  exact ⟨k _ _ h0, k _ _ h1, k _ _ h2, k _ _ h3, k _ _ h4, k _ _ h5, k _ _ h6, k _ _ h7, k _ _ h8, k _ _ h9, hB.trans (hb.mono hB.size)⟩
theorem rd5 {w : World} {b : Nat} {x0 x1 x2 x3 x4 : Value} {t : TypeId} (h : w.heap[b]? = some (.cells #[x0, x1, x2, x3, x4] t (0, 0))) : w.cell? ⟨b, 0, none⟩ = some x0 ∧ w.cell? ⟨b, 1, none⟩ = some x1 ∧ w.cell? ⟨b, 2, none⟩ = some x2 ∧ w.cell? ⟨b, 3, none⟩ = some x3 ∧ w.cell? ⟨b, 4, none⟩ = some x4 :=
  ⟨wat h 0, wat h 1, wat h 2, wat h 3, wat h 4⟩
set_option maxHeartbeats 4000000 in
set_option maxRecDepth 100000 in
set_option linter.unusedSimpArgs false in
theorem law_pipes (v : Value) (ls : List (List UInt8)) (w : World) (hs : Strs w v ls) (hl : ls.flatten.length ≤ 50000000) (hE : Env w) :
    Calls Tryz.prog 7 #[v] w (Ret (.bool true) w) := by
  have HFx := Lib.hid (fun w' (hb : Below w.heap.size w w') => fixed11_any w' (hE.below hb))
  have HR := Lib.hid (fun t w' (hb : Below w.heap.size w w') (ht : t.length ≤ 100000000) => wread_any t w' ht (hE.below hb))
  have HNx := Lib.hid (fun c buf w' (hb : Below w.heap.size w w') (h : CN w' c buf false) (ht : buf.length ≤ 100000000) hx => conn_next c buf w' h ht hx (hE.below hb))
  have HS := Lib.hid hs
  obtain ⟨A, cap, rfl, hca, hcb, -⟩ := hs
  clear hE
  go_enter Tryz.func7, Tryz.ntmps7
  go_wp2_with fail
  refine (HFx.out w (Below.refl _ _)).mono ?_
  rintro e w1 ⟨rfl, hb1⟩
  by_cases hbig : (60 : Int) < ls.length
  · go_wp2_with fail
    refine (HFx.out w1 hb1).mono ?_
    rintro e w2 ⟨rfl, hb2⟩
    have hbl := hb1.trans (hb2.mono hb1.size)
    clear HFx HR HNx hb1 hb2 HS
    go_wp2
    go_ret
    exact ⟨rfl, hbl⟩
  have HI0 := Lib.hid (InP.mk (c := w1.heap.size) (buf := []) (heap_alloc_new w1 (.cells #[.string ⟨#[]⟩, .bool false] 43 (0, 0))) (hb1.alloc hb1.size _))
  have hc0 := hb1.size
  clear HFx hb1
  have hdb : decide ((60 : Int) < ls.length) = false := decide_eq_false (by omega)
  go_wp2_with fail
  try simp only [hdb]
  generalize w1.alloc (.cells #[.string ⟨#[]⟩, .bool false] 43 (0, 0)) = wA at *
  generalize w1.heap.size = c at *
  go_loopw [4, 5] (fun av iv wr => ∃ i : Nat, i ≤ ls.length ∧ iv = .int .i64 i ∧ av = .string ⟨(ls.take i).flatten.toArray⟩ ∧ InP w c wr []) (fun _ iv _ => ls.length - (intOf iv).toNat)
  case atStart => exact ⟨0, Nat.zero_le _, rfl, rfl, HI0.out⟩
  case round =>
    obtain ⟨i, hi, rfl, rfl, hI⟩ := hrel
    have hfl := flat_take_le ls i
    rcases Nat.lt_or_ge i ls.length with hlt | hge
    · obtain ⟨l, b, o, hx, rfl, hbl, hcell⟩ := strs_at (HS.out.below hI.bel (Nat.le_refl _)) hlt
      have hfl2 := flat_take_le ls (i + 1)
      have HF := Lib.hid (flat_snoc hx)
      rw [HF.out, List.length_append] at hfl2
      have k1 : (i : Int) < ls.length := by omega
      have k2 : (0 : Int) ≤ i := by omega
      clear hx hbl HI0
      generalize (ls.take i).flatten = T at *
      go_wp2
      go_roundw
      case rel => exact ⟨i + 1, hlt, by go_num, by rw [HF.out], hI⟩
      case measure => simp [intOf]; omega
    · obtain rfl : i = ls.length := by omega
      rw [List.take_length]
      have HFd := Lib.hid (conn_feed c [] ls.flatten wr hI.cn (by rw [List.length_nil]; omega))
      have hbw := hI.bel
      have HBw := Lib.hid hI.bel
      clear hI HI0 hge hi hfl
      go_wp2_with fail
      refine HFd.out.mono ?_
      rintro e w2 ⟨rfl, hcn, hg⟩
      rw [List.nil_append] at hcn
      have HI1 := Lib.hid (InP.mk hcn (grown_below HBw.out hg HBw.out.size (fun k hk => by injection hk with hk; omega)))
      clear HFd hcn hg HBw hbw
      go_wp2_with fail
      go_loopw [6] (fun iv wr => ∃ i : Nat, i ≤ ls.length ∧ iv = .int .i64 i ∧ InP w c wr (ls.drop i).flatten) (fun iv _ => ls.length - (intOf iv).toNat)
      case atStart => exact ⟨0, Nat.zero_le _, rfl, HI1.out⟩
      case round =>
        obtain ⟨i, hi, rfl, hI⟩ := hrel
        have hfl := flat_drop_le ls i
        have HI := Lib.hid hI
        clear HI1
        rcases Nat.lt_or_ge i ls.length with hlt | hge
        · obtain ⟨l, b, o, hx, rfl, hbl, hcell⟩ := strs_at (HS.out.below hI.bel (Nat.le_refl _)) hlt
          have HFd := Lib.hid (flat_drop hx)
          have hll := congrArg List.length HFd.out
          rw [List.length_append] at hll
          have k1 : (i : Int) < ls.length := by omega
          have k2 : (0 : Int) ≤ i := by omega
          clear hx hI
          go_wp2_with fail
          refine (HR.out l wr HI.out.bel (by omega)).mono ?_
          rintro e w3 ⟨hb3, hx3⟩
          have hcell3 := (hb3.cell (p := ⟨b, o + i, none⟩) hbl).trans hcell
          have hbl3 : b < w3.heap.size := Nat.lt_of_lt_of_le hbl hb3.size
          have HI3 := Lib.hid (HI.out.keep hb3)
          have hcr0 := HI.out.cn.lt
          have hb3s := hb3.size
          clear hcell hbl HI hb3 HR
          rcases hr : readW l with st | ⟨q, r⟩
          · rw [hr] at hx3
            subst hx3
            have hst : ¬ st = 0 := by rcases readW_stats _ _ hr with h | h <;> omega
            have hbl := HI3.out.bel.alloc HI3.out.bel.size (.cells #[.string ⟨#[]⟩, .string ⟨#[]⟩, .slice none 0 0, .string ⟨#[]⟩, .bool false] 26 (0, 0))
            unfold zeroQ
            clear hr HI3 HFd HNx HS
            go_wp2
            go_ret
            exact ⟨rfl, hbl⟩
          · rw [hr] at hx3
            obtain ⟨v1, rfl, ho⟩ := hx3
            have hh1 := own_hdrs ho
            have hh1' := hh1
            obtain ⟨A1, k1', rfl, -, -, -⟩ := hh1'
            obtain ⟨m, t, hdrs, body, cl⟩ := q
            unfold reqV
            simp only at *
            by_cases hre : r = []
            · subst hre
              obtain ⟨u, hu, hfr⟩ := readW_front.ok _ _ _ hr
              rw [List.append_nil] at hu
              subst hu
              have HX := Lib.hid (show readW (ls.drop i).flatten = .ok (⟨m, t, hdrs, body, cl⟩, (ls.drop (i + 1)).flatten) by rw [HFd.out]; exact hfr _)
              have HQ := Lib.hid (InQ.mk' (q := ⟨m, t, hdrs, body, cl⟩) HI3.out.bel hh1 _ rfl)
              have HIa := Lib.hid (show InP w c (w3.alloc (.cells #[.string ⟨m.toArray⟩, .string ⟨t.toArray⟩, .slice A1 hdrs.length k1', .string ⟨body.toArray⟩, .bool cl] 26 (0, 0))) _ from ⟨HI3.out.cn.alloc _, HI3.out.bel.alloc HI3.out.bel.size _⟩)
              simp only at HQ
              have e0 : ((l.length : Int) - ([] : List UInt8).length) = l.length := by simp
              rw [e0]
              have hcr := hcr0
              have HA1 := Lib.hid (fun k (hk : (Value.slice A1 hdrs.length k1').ownBlock = some k) => Nat.lt_of_lt_of_le hcr (ho.lt k hk).1)
              have hcq : c < w3.heap.size := Nat.lt_of_lt_of_le hcr hb3s
              have hfl1 := flat_drop_le ls (i + 1)
              clear hr hfr hh1 ho HI3 HFd e0
              go_wp2_with fail
              generalize w3.alloc (.cells #[.string ⟨m.toArray⟩, .string ⟨t.toArray⟩, .slice A1 hdrs.length k1', .string ⟨body.toArray⟩, .bool cl] 26 (0, 0)) = wB at *
              generalize w3.heap.size = bq at *
              refine (HNx.out c _ wB HIa.out.bel HIa.out.cn (by omega) (fun st h => by rw [HX.out] at h; cases h)).mono ?_
              rintro e w4 ⟨hg4, hx4⟩
              rw [HX.out] at hx4
              obtain ⟨v2, rfl, hh2, hcn2⟩ := hx4
              have hh2' := hh2
              obtain ⟨A2, k2', rfl, -, -, -⟩ := hh2'
              have hlb := HIa.out.cn.lt
              have hq4 := (hg4.block bq (Array.getElem?_eq_some_iff.1 HQ.out.row).1 (fun e => by injection e with e; omega)).trans HQ.out.row
              have hhq : Hdrs w4 (.slice A1 hdrs.length k1') hdrs := Tab.grown HQ.out.hh hg4 (fun b hb' e => by have := HA1.out b hb'; injection e with e; omega) (fun _ _ _ h => h)
              have hb4 := grown_below HIa.out.bel hg4 HIa.out.bel.size (fun k hk => by injection hk with hk; omega)
              have hq4l := (Array.getElem?_eq_some_iff.1 hq4).1
              have hcn4l := hcn2.lt
              unfold reqV
              simp only at hh2 hcn2 ⊢
              have hq5 := (heap_alloc_old w4 (.cells #[.string ⟨m.toArray⟩, .string ⟨t.toArray⟩, .slice A2 hdrs.length k2', .string ⟨body.toArray⟩, .bool cl] 26 (0, 0)) hq4l).trans hq4
              have ha5 := heap_alloc_new w4 (.cells #[.string ⟨m.toArray⟩, .string ⟨t.toArray⟩, .slice A2 hdrs.length k2', .string ⟨body.toArray⟩, .bool cl] 26 (0, 0))
              have hba : Below w4.heap.size w4 (w4.alloc (.cells #[.string ⟨m.toArray⟩, .string ⟨t.toArray⟩, .slice A2 hdrs.length k2', .string ⟨body.toArray⟩, .bool cl] 26 (0, 0))) := (Below.refl _ _).alloc (Nat.le_refl _) _
              have hb5 := hb4.trans (hba.mono hb4.size)
              have HCn := Lib.hid (hcn2.keep hba)
              have HHa := Lib.hid (hh2.below hba (Nat.le_refl _))
              have HHq := Lib.hid (hhq.below hba (Nat.le_refl _))
              go_wp2_with fail
              generalize hw5 : w4.alloc (.cells #[.string ⟨m.toArray⟩, .string ⟨t.toArray⟩, .slice A2 hdrs.length k2', .string ⟨body.toArray⟩, .bool cl] 26 (0, 0)) = w5 at *
              generalize w4.heap.size = ba at *
              obtain ⟨a0, a1, a2, a3, a4⟩ := rd5 ha5
              obtain ⟨q0, q1, q2, q3, q4⟩ := rd5 hq5
              have hS0 : PS w5 ba bq (.string ⟨m.toArray⟩) (.string ⟨t.toArray⟩) (.slice A2 hdrs.length k2') (.string ⟨body.toArray⟩) (.bool cl) (.slice A1 hdrs.length k1') w5.drew := ⟨a0, a1, a2, a3, a4, q0, q1, q2, q3, q4, below_draws (Below.refl _ _) 1⟩
              have HB5 := Lib.hid hb5
              clear hg4 HIa HQ HX hq4 hhq hb4 hq4l hcn4l hq5 ha5 hba hb5 hh2 hcn2 hw5 a0 a1 a2 a3 a4 q0 q1 q2 q3 q4 HA1 HNx
              have Hk := Lib.hid (fun (w1 w2 : World) (h : PS w5 ba bq (.string ⟨m.toArray⟩) (.string ⟨t.toArray⟩) (.slice A2 hdrs.length k2') (.string ⟨body.toArray⟩) (.bool cl) (.slice A1 hdrs.length k1') w1) (hb : Below w1.heap.size w1 w2) => h.keep hb)
              have HSm := Lib.hid (fun (w1 : World) (h : PS w5 ba bq (.string ⟨m.toArray⟩) (.string ⟨t.toArray⟩) (.slice A2 hdrs.length k2') (.string ⟨body.toArray⟩) (.bool cl) (.slice A1 hdrs.length k1') w1) => wsame_any ⟨m, t, hdrs, body, cl⟩ (.slice A2 hdrs.length k2') (.slice A1 hdrs.length k1') w1 (HHa.out.below h.2.2.2.2.2.2.2.2.2.2 (Nat.le_refl _)) (HHq.out.below h.2.2.2.2.2.2.2.2.2.2 (Nat.le_refl _)))
              have HCl := Lib.hid (fun (w1 : World) (h : PS w5 ba bq (.string ⟨m.toArray⟩) (.string ⟨t.toArray⟩) (.slice A2 hdrs.length k2') (.string ⟨body.toArray⟩) (.bool cl) (.slice A1 hdrs.length k1') w1) => (conn_closed c _ cl w1 (HCn.out.keep h.2.2.2.2.2.2.2.2.2.2)).mono (R' := Ret (.bool cl) w1) fun e w' hh => ⟨hh.1, hh.2 ▸ Below.refl _ _⟩)
              unfold reqV at HSm
              simp only at HSm
              cases cl
              · go_region_held3 (fun w' => w'.cell? ⟨ba, 0, none⟩ = some (.string ⟨m.toArray⟩) ∧ w'.cell? ⟨ba, 1, none⟩ = some (.string ⟨t.toArray⟩) ∧ w'.cell? ⟨ba, 2, none⟩ = some (.slice A2 hdrs.length k2') ∧ w'.cell? ⟨ba, 3, none⟩ = some (.string ⟨body.toArray⟩) ∧ w'.cell? ⟨ba, 4, none⟩ = some (.bool false) ∧ w'.cell? ⟨bq, 0, none⟩ = some (.string ⟨m.toArray⟩) ∧ w'.cell? ⟨bq, 1, none⟩ = some (.string ⟨t.toArray⟩) ∧ w'.cell? ⟨bq, 2, none⟩ = some (.slice A1 hdrs.length k1') ∧ w'.cell? ⟨bq, 3, none⟩ = some (.string ⟨body.toArray⟩) ∧ w'.cell? ⟨bq, 4, none⟩ = some (.bool false) ∧ Below w5.heap.size w5 w')
                  (first | exact hS0 | exact Hk.out _ _ (by assumption) (by assumption))
                  (first
                    | (go_at_call 14; refine (HSm.out _ (by assumption)).mono ?_; rintro e w' ⟨rfl, hb1⟩)
                    | (go_at_call 19; refine (HCl.out _ (by assumption)).mono ?_; rintro e w'' ⟨rfl, hb2⟩))
                obtain ⟨-, -, -, -, -, -, -, -, -, y4, hB⟩ := (show PS w5 ba bq (.string ⟨m.toArray⟩) (.string ⟨t.toArray⟩) (.slice A2 hdrs.length k2') (.string ⟨body.toArray⟩) (.bool false) (.slice A1 hdrs.length k1') w'' from by assumption)
                have hbl := HB5.out.trans (hB.mono HB5.out.size)
                have hIn := InP.mk (HCn.out.keep hB) hbl
                have HIn := Lib.hid hIn
                clear hS0 Hk HSm HCl HHa HHq HB5 hB hIn HCn hb1 hb2
                go_wp2
                go_roundw
                case rel => exact ⟨i + 1, hlt, by go_num, HIn.out⟩
                case measure => simp [intOf]; omega
              · go_region_held3 (fun w' => w'.cell? ⟨ba, 0, none⟩ = some (.string ⟨m.toArray⟩) ∧ w'.cell? ⟨ba, 1, none⟩ = some (.string ⟨t.toArray⟩) ∧ w'.cell? ⟨ba, 2, none⟩ = some (.slice A2 hdrs.length k2') ∧ w'.cell? ⟨ba, 3, none⟩ = some (.string ⟨body.toArray⟩) ∧ w'.cell? ⟨ba, 4, none⟩ = some (.bool true) ∧ w'.cell? ⟨bq, 0, none⟩ = some (.string ⟨m.toArray⟩) ∧ w'.cell? ⟨bq, 1, none⟩ = some (.string ⟨t.toArray⟩) ∧ w'.cell? ⟨bq, 2, none⟩ = some (.slice A1 hdrs.length k1') ∧ w'.cell? ⟨bq, 3, none⟩ = some (.string ⟨body.toArray⟩) ∧ w'.cell? ⟨bq, 4, none⟩ = some (.bool true) ∧ Below w5.heap.size w5 w')
                  (first | exact hS0 | exact Hk.out _ _ (by assumption) (by assumption))
                  (first
                    | (go_at_call 14; refine (HSm.out _ (by assumption)).mono ?_; rintro e w' ⟨rfl, hb1⟩)
                    | (go_at_call 19; refine (HCl.out _ (by assumption)).mono ?_; rintro e w'' ⟨rfl, hb2⟩))
                obtain ⟨-, -, -, -, -, -, -, -, -, y4, hB⟩ := (show PS w5 ba bq (.string ⟨m.toArray⟩) (.string ⟨t.toArray⟩) (.slice A2 hdrs.length k2') (.string ⟨body.toArray⟩) (.bool true) (.slice A1 hdrs.length k1') w'' from by assumption)
                have hbl := HB5.out.trans (hB.mono HB5.out.size)
                clear hS0 Hk HSm HCl HHa HHq HB5 hB HCn hb1 hb2
                go_wp2
                go_ret
                exact ⟨rfl, hbl⟩
            · have hrl := List.length_pos_iff.2 hre
              have hbl := HI3.out.bel.alloc HI3.out.bel.size (.cells #[.string ⟨m.toArray⟩, .string ⟨t.toArray⟩, .slice A1 hdrs.length k1', .string ⟨body.toArray⟩, .bool cl] 26 (0, 0))
              obtain ⟨U, hU⟩ : ∃ U : Int, U = (l.length : Int) - r.length := ⟨_, rfl⟩
              rw [← hU]
              have hne : ¬ (U = (l.length : Int)) := by omega
              clear hr hh1 ho HI3 HFd HNx HS hU
              go_wp2
              go_ret
              exact ⟨rfl, hbl⟩
        · obtain rfl : i = ls.length := by omega
          rw [List.drop_length] at HI
          have HN0 := Lib.hid (HNx.out c [] wr HI.out.bel HI.out.cn (by simp) (fun st h => by
            have : readW [] = .error (-1) := rfl
            rw [this] at h
            injection h with h
            exact h.symm))
          have HBw := Lib.hid hI.bel
          have hbs := hI.bel.size
          clear hI HI HNx HR hge hi hfl
          go_wp2_with fail
          refine HN0.out.mono ?_
          rintro e w3 ⟨hg, hx⟩
          rw [show readW [] = .error (-1) from rfl] at hx
          obtain ⟨rfl, -⟩ := hx
          have hb3 := grown_below HBw.out hg hbs (fun k hk => by injection hk with hk; omega)
          have hbl := hb3.alloc hb3.size (.cells #[.string ⟨#[]⟩, .string ⟨#[]⟩, .slice none 0 0, .string ⟨#[]⟩, .bool false] 26 (0, 0))
          unfold zeroQ
          clear hg hb3 HBw HN0 HS
          go_wp2
          go_ret
          exact ⟨rfl, hbl⟩
end Go.Proofs.YtlkbfehdiopkbaaGreatDoor

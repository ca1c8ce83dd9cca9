/-
  Parts of the walks and plain laws of layer 10, joined: MulK MulM MulL. Conditions: as each theorem states them.
-/
import Derived.Test.YtcamdnfhnianbaaGreatDoorXmlZ44
import Derived.Test.YtcamdnfhnianbaaGreatDoorXmlZ35
/-! MulK -/
namespace Go.Proofs.YtcamdnfhnianbaaGreatDoor
set_option linter.unusedVariables false
set_option linter.unusedSimpArgs false
open Go.RowKit

def fmT : ToldT := ⟨[47, 97], [⟨200, [.mk [] wDav wEtag [] [textN [49]]]⟩]⟩
def fmS : List UInt8 := [60, 109, 117, 108, 116, 105, 115, 116, 97, 116, 117, 115, 32, 120, 109, 108, 110, 115, 61, 34, 68, 65, 86, 58, 34, 62, 60, 114, 101, 115, 112, 111, 110, 115, 101, 62, 60, 104, 114, 101, 102, 62, 47, 97, 60, 47, 104, 114, 101, 102, 62, 60, 112, 114, 111, 112, 115, 116, 97, 116, 62, 60, 112, 114, 111, 112, 62, 60, 103, 101, 116, 101, 116, 97, 103, 62, 49, 60, 47, 103, 101, 116, 101, 116, 97, 103, 62, 60, 47, 112, 114, 111, 112, 62, 60, 115, 116, 97, 116, 117, 115, 62, 72, 84, 84, 80, 47, 49, 46, 49, 32, 50, 48, 48, 32, 79, 75, 60, 47, 115, 116, 97, 116, 117, 115, 62, 60, 47, 112, 114, 111, 112, 115, 116, 97, 116, 62, 60, 47, 114, 101, 115, 112, 111, 110, 115, 101, 62, 60, 47, 109, 117, 108, 116, 105, 115, 116, 97, 116, 117, 115, 62]
theorem fmS_eq : buildM [fmT] = .ok fmS := by kernel_rfl
theorem fm_small : SmallM [fmT] := by
  refine ⟨by decide, by intro t ht; rw [List.mem_singleton.1 ht]; decide, ?_, ?_⟩
  · intro t ht p hp n hn
    rw [List.mem_singleton.1 ht] at hp
    obtain rfl := List.mem_singleton.1 hp
    obtain rfl := List.mem_singleton.1 hn
    exact small_of (by decide +kernel)
  · have hb : bulkT (davN wMulti ([fmT].map respN)) ≤ 2000000 := by decide +kernel
    exact fun _ => ⟨small_of hb, by have := form_bulk (davN wMulti ([fmT].map respN)) []; omega⟩
theorem fm_mem (w : World) : ToldsP anyB ((((w.alloc (.cells #[.string ⟨#[49]⟩, .string ⟨#[]⟩, .string ⟨#[]⟩, .slice none 0 0, .slice none 0 0] 36 (0, 0))).alloc (.cells #[.string ⟨#[]⟩, .string ⟨#[68, 65, 86, 58]⟩, .string ⟨#[103, 101, 116, 101, 116, 97, 103]⟩, .slice none 0 0, .slice (some ⟨w.heap.size, 0, none⟩) 1 1] 36 (0, 0))).alloc (.cells #[.int .i64 200, .slice (some ⟨w.heap.size + 1, 0, none⟩) 1 1] 47 (0, 0))).alloc (.cells #[.string ⟨#[47, 97]⟩, .slice (some ⟨w.heap.size + 1 + 1, 0, none⟩) 1 1] 42 (0, 0))) (.slice (some ⟨w.heap.size + 1 + 1 + 1, 0, none⟩) 1 1) [fmT] := by
  have h1 : ((((w.alloc (.cells #[.string ⟨#[49]⟩, .string ⟨#[]⟩, .string ⟨#[]⟩, .slice none 0 0, .slice none 0 0] 36 (0, 0))).alloc (.cells #[.string ⟨#[]⟩, .string ⟨#[68, 65, 86, 58]⟩, .string ⟨#[103, 101, 116, 101, 116, 97, 103]⟩, .slice none 0 0, .slice (some ⟨w.heap.size, 0, none⟩) 1 1] 36 (0, 0))).alloc (.cells #[.int .i64 200, .slice (some ⟨w.heap.size + 1, 0, none⟩) 1 1] 47 (0, 0))).alloc (.cells #[.string ⟨#[47, 97]⟩, .slice (some ⟨w.heap.size + 1 + 1, 0, none⟩) 1 1] 42 (0, 0))).heap[w.heap.size]? = some (.cells #[.string ⟨#[49]⟩, .string ⟨#[]⟩, .string ⟨#[]⟩, .slice none 0 0, .slice none 0 0] 36 (0, 0)) := allocs_at [(.cells #[.string ⟨#[49]⟩, .string ⟨#[]⟩, .string ⟨#[]⟩, .slice none 0 0, .slice none 0 0] 36 (0, 0)), (.cells #[.string ⟨#[]⟩, .string ⟨#[68, 65, 86, 58]⟩, .string ⟨#[103, 101, 116, 101, 116, 97, 103]⟩, .slice none 0 0, .slice (some ⟨w.heap.size, 0, none⟩) 1 1] 36 (0, 0)), (.cells #[.int .i64 200, .slice (some ⟨w.heap.size + 1, 0, none⟩) 1 1] 47 (0, 0)), (.cells #[.string ⟨#[47, 97]⟩, .slice (some ⟨w.heap.size + 1 + 1, 0, none⟩) 1 1] 42 (0, 0))] w 0 _ rfl
  have h2 : ((((w.alloc (.cells #[.string ⟨#[49]⟩, .string ⟨#[]⟩, .string ⟨#[]⟩, .slice none 0 0, .slice none 0 0] 36 (0, 0))).alloc (.cells #[.string ⟨#[]⟩, .string ⟨#[68, 65, 86, 58]⟩, .string ⟨#[103, 101, 116, 101, 116, 97, 103]⟩, .slice none 0 0, .slice (some ⟨w.heap.size, 0, none⟩) 1 1] 36 (0, 0))).alloc (.cells #[.int .i64 200, .slice (some ⟨w.heap.size + 1, 0, none⟩) 1 1] 47 (0, 0))).alloc (.cells #[.string ⟨#[47, 97]⟩, .slice (some ⟨w.heap.size + 1 + 1, 0, none⟩) 1 1] 42 (0, 0))).heap[w.heap.size + 1]? = some (.cells #[.string ⟨#[]⟩, .string ⟨#[68, 65, 86, 58]⟩, .string ⟨#[103, 101, 116, 101, 116, 97, 103]⟩, .slice none 0 0, .slice (some ⟨w.heap.size, 0, none⟩) 1 1] 36 (0, 0)) := allocs_at [(.cells #[.string ⟨#[49]⟩, .string ⟨#[]⟩, .string ⟨#[]⟩, .slice none 0 0, .slice none 0 0] 36 (0, 0)), (.cells #[.string ⟨#[]⟩, .string ⟨#[68, 65, 86, 58]⟩, .string ⟨#[103, 101, 116, 101, 116, 97, 103]⟩, .slice none 0 0, .slice (some ⟨w.heap.size, 0, none⟩) 1 1] 36 (0, 0)), (.cells #[.int .i64 200, .slice (some ⟨w.heap.size + 1, 0, none⟩) 1 1] 47 (0, 0)), (.cells #[.string ⟨#[47, 97]⟩, .slice (some ⟨w.heap.size + 1 + 1, 0, none⟩) 1 1] 42 (0, 0))] w 1 _ rfl
  have h3 : ((((w.alloc (.cells #[.string ⟨#[49]⟩, .string ⟨#[]⟩, .string ⟨#[]⟩, .slice none 0 0, .slice none 0 0] 36 (0, 0))).alloc (.cells #[.string ⟨#[]⟩, .string ⟨#[68, 65, 86, 58]⟩, .string ⟨#[103, 101, 116, 101, 116, 97, 103]⟩, .slice none 0 0, .slice (some ⟨w.heap.size, 0, none⟩) 1 1] 36 (0, 0))).alloc (.cells #[.int .i64 200, .slice (some ⟨w.heap.size + 1, 0, none⟩) 1 1] 47 (0, 0))).alloc (.cells #[.string ⟨#[47, 97]⟩, .slice (some ⟨w.heap.size + 1 + 1, 0, none⟩) 1 1] 42 (0, 0))).heap[w.heap.size + 1 + 1]? = some (.cells #[.int .i64 200, .slice (some ⟨w.heap.size + 1, 0, none⟩) 1 1] 47 (0, 0)) := allocs_at [(.cells #[.string ⟨#[49]⟩, .string ⟨#[]⟩, .string ⟨#[]⟩, .slice none 0 0, .slice none 0 0] 36 (0, 0)), (.cells #[.string ⟨#[]⟩, .string ⟨#[68, 65, 86, 58]⟩, .string ⟨#[103, 101, 116, 101, 116, 97, 103]⟩, .slice none 0 0, .slice (some ⟨w.heap.size, 0, none⟩) 1 1] 36 (0, 0)), (.cells #[.int .i64 200, .slice (some ⟨w.heap.size + 1, 0, none⟩) 1 1] 47 (0, 0)), (.cells #[.string ⟨#[47, 97]⟩, .slice (some ⟨w.heap.size + 1 + 1, 0, none⟩) 1 1] 42 (0, 0))] w 2 _ rfl
  have h4 : ((((w.alloc (.cells #[.string ⟨#[49]⟩, .string ⟨#[]⟩, .string ⟨#[]⟩, .slice none 0 0, .slice none 0 0] 36 (0, 0))).alloc (.cells #[.string ⟨#[]⟩, .string ⟨#[68, 65, 86, 58]⟩, .string ⟨#[103, 101, 116, 101, 116, 97, 103]⟩, .slice none 0 0, .slice (some ⟨w.heap.size, 0, none⟩) 1 1] 36 (0, 0))).alloc (.cells #[.int .i64 200, .slice (some ⟨w.heap.size + 1, 0, none⟩) 1 1] 47 (0, 0))).alloc (.cells #[.string ⟨#[47, 97]⟩, .slice (some ⟨w.heap.size + 1 + 1, 0, none⟩) 1 1] 42 (0, 0))).heap[w.heap.size + 1 + 1 + 1]? = some (.cells #[.string ⟨#[47, 97]⟩, .slice (some ⟨w.heap.size + 1 + 1, 0, none⟩) 1 1] 42 (0, 0)) := allocs_at [(.cells #[.string ⟨#[49]⟩, .string ⟨#[]⟩, .string ⟨#[]⟩, .slice none 0 0, .slice none 0 0] 36 (0, 0)), (.cells #[.string ⟨#[]⟩, .string ⟨#[68, 65, 86, 58]⟩, .string ⟨#[103, 101, 116, 101, 116, 97, 103]⟩, .slice none 0 0, .slice (some ⟨w.heap.size, 0, none⟩) 1 1] 36 (0, 0)), (.cells #[.int .i64 200, .slice (some ⟨w.heap.size + 1, 0, none⟩) 1 1] 47 (0, 0)), (.cells #[.string ⟨#[47, 97]⟩, .slice (some ⟨w.heap.size + 1 + 1, 0, none⟩) 1 1] 42 (0, 0))] w 3 _ rfl
  refine row1 h4 rfl ⟨_, rfl, ?_⟩
  refine row1 h3 rfl ⟨_, rfl, ?_⟩
  refine row1 h2 rfl ?_
  exact NodeP.of (t := []) (s := wDav) (n := wEtag) (ats := []) (TabP.nil _ _ _ _) (row1 h1 rfl (NodeP.text _ _ _))
set_option maxHeartbeats 8000000 in
set_option maxRecDepth 100000 in
set_option linter.unusedSimpArgs false in
theorem mfixed_any (w : World) (hE : MEnv w) : Calls Tryz.prog 7 #[] w (Ret (.bool true) w) := by
  have HE := Lib.hid hE
  have hb0 : Below w.heap.size w ((((w.alloc (.cells #[.string ⟨#[49]⟩, .string ⟨#[]⟩, .string ⟨#[]⟩, .slice none 0 0, .slice none 0 0] 36 (0, 0))).alloc (.cells #[.string ⟨#[]⟩, .string ⟨#[68, 65, 86, 58]⟩, .string ⟨#[103, 101, 116, 101, 116, 97, 103]⟩, .slice none 0 0, .slice (some ⟨w.heap.size, 0, none⟩) 1 1] 36 (0, 0))).alloc (.cells #[.int .i64 200, .slice (some ⟨w.heap.size + 1, 0, none⟩) 1 1] 47 (0, 0))).alloc (.cells #[.string ⟨#[47, 97]⟩, .slice (some ⟨w.heap.size + 1 + 1, 0, none⟩) 1 1] 42 (0, 0))) := allocs_below [(.cells #[.string ⟨#[49]⟩, .string ⟨#[]⟩, .string ⟨#[]⟩, .slice none 0 0, .slice none 0 0] 36 (0, 0)), (.cells #[.string ⟨#[]⟩, .string ⟨#[68, 65, 86, 58]⟩, .string ⟨#[103, 101, 116, 101, 116, 97, 103]⟩, .slice none 0 0, .slice (some ⟨w.heap.size, 0, none⟩) 1 1] 36 (0, 0)), (.cells #[.int .i64 200, .slice (some ⟨w.heap.size + 1, 0, none⟩) 1 1] 47 (0, 0)), (.cells #[.string ⟨#[47, 97]⟩, .slice (some ⟨w.heap.size + 1 + 1, 0, none⟩) 1 1] 42 (0, 0))] w
  have HM := Lib.hid (fm_mem w)
  have hB := mbuild_any [fmT] _ _ _ HM.out fm_small (hE.below hb0)
  rw [fmS_eq] at hB
  have HBu := Lib.hid hB
  have HB0 := Lib.hid hb0
  obtain ⟨E, hEE⟩ : ∃ E, E = Ret (.bool true) w := ⟨_, rfl⟩
  rw [← hEE]
  have HEE := Lib.hid hEE
  clear hE hEE hb0 hB
  go_enter Tryz.func7, Tryz.ntmps7
  go_wp2_with fail
  generalize ((((w.alloc (.cells #[.string ⟨#[49]⟩, .string ⟨#[]⟩, .string ⟨#[]⟩, .slice none 0 0, .slice none 0 0] 36 (0, 0))).alloc (.cells #[.string ⟨#[]⟩, .string ⟨#[68, 65, 86, 58]⟩, .string ⟨#[103, 101, 116, 101, 116, 97, 103]⟩, .slice none 0 0, .slice (some ⟨w.heap.size, 0, none⟩) 1 1] 36 (0, 0))).alloc (.cells #[.int .i64 200, .slice (some ⟨w.heap.size + 1, 0, none⟩) 1 1] 47 (0, 0))).alloc (.cells #[.string ⟨#[47, 97]⟩, .slice (some ⟨w.heap.size + 1 + 1, 0, none⟩) 1 1] 42 (0, 0))) = w4 at *
  refine HBu.out.mono ?_
  rintro e w5 ⟨hb5, rfl⟩
  rw [show errX (Except.ok fmS : Except Int (List UInt8)) = 0 from rfl, show okOr [] (Except.ok fmS : Except Int (List UInt8)) = fmS from rfl]
  have HB5 := Lib.hid (HB0.out.trans (hb5.mono HB0.out.size))
  have hR := mread_any fmS w5 (by decide) (HE.out.below HB5.out)
  rw [build_read fmS_eq] at hR
  obtain ⟨S, hS⟩ : ∃ S, S = fmS := ⟨_, rfl⟩
  rw [← hS] at hR ⊢
  have HR := Lib.hid hR
  have HS := Lib.hid hS
  clear hb5 hR hS HBu HB0 HM
  go_wp2_with fail
  refine HR.out.mono ?_
  rintro e w6 ⟨hb6, v, rfl, hrow⟩
  have HB6 := Lib.hid (HB5.out.trans (hb6.mono HB5.out.size))
  obtain ⟨A, c, hv, hc1, hc2⟩ := hrow.form
  unfold maxLen at hc2
  subst hv
  obtain ⟨-, -, -, htk⟩ := told_at (hrow.tab mov_told)
  obtain ⟨b, o, pA, pc, rfl, hbl, e0, -, -⟩ := htk 0 fmT rfl
  rw [Nat.zero_mul, Nat.add_zero] at e0
  replace e0 : w6.cell? ⟨b, o, none⟩ = some (.string ⟨#[47, 97]⟩) := e0
  replace hc1 : 1 ≤ c := hc1
  rw [show ([fmT] : List ToldT).length = 1 from rfl]
  clear hb6 hrow htk HR HB5
  go_wp2
  rw [HEE.out]
  exact ⟨rfl, HB6.out⟩
end Go.Proofs.YtcamdnfhnianbaaGreatDoor
/-! MulM -/
namespace Go.Proofs.YtcamdnfhnianbaaGreatDoor
set_option linter.unusedVariables false
set_option linter.unusedSimpArgs false
open Go.ChangeShapes Go.WideShapes Go.ChangeAt Go.RowKit Go.Deep

theorem menv_of {W : World} (h0 : laidMetH Tryz.prog Rows.multiBuildsRow.laid W) (hsh : W.ShapedOpen Tryz.prog) : MEnv W := by
  refine ⟨env_of h0 hsh, ?_⟩
  have h : laidMet Tryz.prog [("math/bits.deBruijn32tab", Rows.laid_math_bits_deBruijn32tab), ("math/bits.deBruijn64tab", Rows.laid_math_bits_deBruijn64tab), ("internal/strconv.uint64pow10", Rows.laid_internal_strconv_uint64pow10), ("unicode/utf8.acceptRanges", Rows.laid_unicode_utf8_acceptRanges), ("strconv.ErrRange", Rows.laid_strconv_ErrRange), ("strconv.ErrSyntax", Rows.laid_strconv_ErrSyntax), ("unicode.asciiFold", Rows.laid_unicode_asciiFold), ("unicode.caseOrbit", Rows.laid_unicode_caseOrbit), ("unicode.CaseRanges", Rows.laid_unicode_CaseRanges), ("unicode/utf8.first", Rows.laid_unicode_utf8_first)] W := by
    rw [MakeChecks.laidMetH_plain _ _ _ (by kernel_rfl)] at h0
    exact h0
  have h3 := laidMet.tail (laidMet.tail h)
  rw [pow_eq] at h3
  exact Lib.tabIs_of_head (g := 8) (t := 217) (n := 20) (by kernel_rfl) (by kernel_rfl) Tryz.underlying217 Tryz.underlying151 (by kernel_rfl) (by kernel_rfl) h3
def partB (p : PartT) : Nat := bulkTL p.props + 1
def toldB (t : ToldT) : Nat := t.href.length + (t.parts.map partB).sum + t.parts.length + 1
theorem read_tolds : Tryz.prog.readableRec 22 = true := by kernel_rfl
theorem row_tolds : 22 < Tryz.prog.types.size := of_decide_eq_true (by kernel_rfl)
section
variable {H : Type} {enc : TypeId × Value → H}
set_option maxRecDepth 100000 in
theorem parts_of_cells {W : World} {fuel : Nat} {v : Value} {x : DataW H × List MemPlace} (h : DataW.trod enc Tryz.prog W 0 (fun _ => true) true fuel 40 [v] = some x) : ∃ l, PartsP anyB W v l ∧ (l.map partB).sum + l.length ≤ Rows.uptoBulk x.1 := by
  obtain ⟨l, h1, h2⟩ := tab_of_trod (fs := _) (α := PartT) (PartR anyB) partB Tryz.underlying40 Tryz.underlying47 (by kernel_rfl) (by kernel_rfl) (by decide) (fun cs ys k hc hy hf => by
    obtain ⟨c0, c1, rfl⟩ := two' hc
    obtain ⟨y0, y1, rfl⟩ := two' hy
    obtain ⟨v0, z0, h0, hz0, t0⟩ := hf 0 _ rfl
    obtain ⟨v1, z1, h1, hz1, t1⟩ := hf 1 _ rfl
    injection h0 with h0; injection h1 with h1
    injection hz0 with hz0; injection hz1 with hz1
    subst h0 h1 hz0 hz1
    obtain ⟨z, hz, hzx, -⟩ := DataW.trod_int Tryz.underlying3 t0
    injection hz with hz
    subst hz
    have hb0 : Rows.uptoBulk y0.1 = 1 := by rw [hzx]; rfl
    obtain ⟨ns, hn, hb⟩ := nodes_of_cells _ (Nat.lt_succ_self _) t1
    refine ⟨⟨z, ns⟩, ⟨_, rfl, hn⟩, ?_⟩
    simp only [Rows.uptoBulk, Rows.uptoBulkAll, List.map_cons, List.map_nil, hb0, partB]
    omega) h
  exact ⟨l, TabP.any h1, h2⟩
set_option maxRecDepth 100000 in
theorem tolds_of_trod {W : World} {v : Value} {d : DataW H} {ps : List MemPlace} (hv : Value.okWide Tryz.prog W .any 0 22 v) (h : DataW.Trod enc Tryz.prog W 0 (fun _ => true) true 22 v d ps) :
    ∃ l, ToldsP anyB W v l ∧ (l.map toldB).sum + l.length ≤ Rows.uptoBulk d := by
  obtain ⟨fuel, hf⟩ := trod_one Tryz.underlying22 hv h
  obtain ⟨l, h1, h2⟩ := tab_of_trod (fs := _) (α := ToldT) (ToldR anyB) toldB Tryz.underlying22 Tryz.underlying42 (by kernel_rfl) (by kernel_rfl) (by decide) (fun cs ys k hc hy hf => by
    obtain ⟨c0, c1, rfl⟩ := two' hc
    obtain ⟨y0, y1, rfl⟩ := two' hy
    obtain ⟨v0, z0, h0, hz0, t0⟩ := hf 0 _ rfl
    obtain ⟨v1, z1, h1, hz1, t1⟩ := hf 1 _ rfl
    injection h0 with h0; injection h1 with h1
    injection hz0 with hz0; injection hz1 with hz1
    subst h0 h1 hz0 hz1
    obtain ⟨s0, rfl, hb0⟩ := str_open t0
    obtain ⟨l1, hl1, hb1⟩ := parts_of_cells t1
    refine ⟨⟨s0, l1⟩, ⟨_, rfl, hl1⟩, ?_⟩
    simp only [Rows.uptoBulk, Rows.uptoBulkAll, List.map_cons, List.map_nil, hb0, toldB]
    omega) hf
  exact ⟨l, TabP.any h1, h2⟩
end
/-! how great -/
theorem sum_memB {α : Type} (m : α → Nat) : ∀ (l : List α) (x : α), x ∈ l → m x ≤ (l.map m).sum
  | y :: l, x, h => by
    rw [List.map_cons, List.sum_cons]
    rcases List.mem_cons.1 h with rfl | h
    · omega
    · have := sum_memB m l x h; omega
theorem status_len {p : PartT} (h : goodP p = true) : (statusS p.status).length ≤ 44 := by
  unfold goodP at h
  rw [Bool.and_eq_true] at h
  obtain ⟨h1, h2, -⟩ := codes_small p.status (reason_codes (by simpa using h.1))
  unfold statusS
  simp only [List.length_append, List.length_cons]
  have : wVer.length = 9 := rfl
  omega
theorem bulk_text (t : List UInt8) : bulkT (textN t) = t.length + 3 := by
  show bulkT (.mk t [] [] [] []) = _
  rw [bulkT, bulkTL]
  simp
theorem bulk_part {p : PartT} (h : goodP p = true) : bulkT (partN p) ≤ partB p + 100 := by
  have h1 := status_len h
  unfold partN partB
  rw [bulk_dav, bulkTL, bulkTL_one, bulk_dav, bulk_dav, bulkTL_one, bulk_text]
  show 8 + 7 + (4 + 7 + bulkTL p.props + 1 + (6 + 7 + ((statusS p.status).length + 3 + 1) + 1)) ≤ _
  omega
theorem bulk_parts : ∀ ps : List PartT, ps.all goodP = true → bulkTL (ps.map partN) ≤ (ps.map partB).sum + 101 * ps.length
  | [], _ => Nat.zero_le _
  | p :: ps, h => by
    rw [List.all_cons, Bool.and_eq_true] at h
    have h1 := bulk_part h.1
    have h2 := bulk_parts ps h.2
    rw [List.map_cons, bulkTL, List.map_cons, List.sum_cons, List.length_cons]
    omega
theorem bulk_resp {t : ToldT} (h : goodM t = true) : bulkT (respN t) ≤ 102 * toldB t + 60 := by
  unfold goodM at h
  rw [Bool.and_eq_true] at h
  have h1 := bulk_parts t.parts h.1
  unfold respN toldB
  rw [bulk_dav, bulkTL, bulk_dav, bulkTL_one, bulk_text]
  show 8 + 7 + (4 + 7 + (t.href.length + 3 + 1) + 1 + bulkTL (t.parts.map partN)) ≤ _
  omega
theorem bulk_resps : ∀ l : List ToldT, l.all goodM = true → bulkTL (l.map respN) ≤ 102 * (l.map toldB).sum + 61 * l.length
  | [], _ => Nat.zero_le _
  | t :: l, h => by
    rw [List.all_cons, Bool.and_eq_true] at h
    have h1 := bulk_resp h.1
    have h2 := bulk_resps l h.2
    rw [List.map_cons, bulkTL, List.map_cons, List.sum_cons, List.length_cons]
    omega
theorem len_sum {α : Type} (m : α → Nat) (hm : ∀ x, 1 ≤ m x) : ∀ l : List α, l.length ≤ (l.map m).sum
  | [] => Nat.zero_le _
  | x :: l => by
    have := len_sum m hm l
    have := hm x
    rw [List.map_cons, List.sum_cons, List.length_cons]
    omega
theorem smallM_of {l : List ToldT} (h : (l.map toldB).sum + l.length ≤ 1048576) : SmallM l := by
  have hl1 := len_sum toldB (fun t => by unfold toldB; omega) l
  refine ⟨by omega, fun t ht => ?_, fun t ht p hp n hn => ?_, fun hg => ⟨?_, ?_⟩⟩
  · have h1 := sum_memB toldB l t ht
    have h2 := len_sum partB (fun p => by unfold partB; omega) t.parts
    have h5 : toldB t = t.href.length + (t.parts.map partB).sum + t.parts.length + 1 := rfl
    omega
  · have h1 := sum_memB toldB l t ht
    have h2 := sum_memB partB t.parts p hp
    have h3 := bulkTL_mem p.props n hn
    have h4 : partB p = bulkTL p.props + 1 := rfl
    have h5 : toldB t = t.href.length + (t.parts.map partB).sum + t.parts.length + 1 := rfl
    exact small_of (by omega)
  · refine .mk _ _ _ _ _ (Nat.zero_le _) (by decide) (by decide) (Nat.zero_le _) (fun a ha => by cases ha) (by rw [List.length_map]; omega) fun x hx => ?_
    obtain ⟨t, ht, rfl⟩ := List.mem_map.1 hx
    have h1 := sum_memB toldB l t ht
    have h5 : toldB t = t.href.length + (t.parts.map partB).sum + t.parts.length + 1 := rfl
    have hgt := List.all_eq_true.1 hg t ht
    unfold goodM at hgt
    rw [Bool.and_eq_true] at hgt
    refine .mk _ _ _ _ _ (Nat.zero_le _) (by decide) (by decide) (Nat.zero_le _) (fun a ha => by cases ha) (by rw [List.length_cons, List.length_map]; omega) fun y hy => ?_
    rcases List.mem_cons.1 hy with rfl | hy
    · refine .mk _ _ _ _ _ (Nat.zero_le _) (by decide) (by decide) (Nat.zero_le _) (fun a ha => by cases ha) (show 1 ≤ 2000000 by decide) fun z hz => ?_
      rw [List.mem_singleton.1 hz]
      exact SmallN.text (by omega)
    · obtain ⟨p, hp, rfl⟩ := List.mem_map.1 hy
      have h2 := sum_memB partB t.parts p hp
      have h4 : partB p = bulkTL p.props + 1 := rfl
      have h6 := status_len (List.all_eq_true.1 hgt.1 p hp)
      refine .mk _ _ _ _ _ (Nat.zero_le _) (by decide) (by decide) (Nat.zero_le _) (fun a ha => by cases ha) (show 2 ≤ 2000000 by decide) fun z hz => ?_
      simp only [List.mem_cons, List.not_mem_nil, or_false] at hz
      rcases hz with rfl | rfl
      · refine .mk _ _ _ _ _ (Nat.zero_le _) (by decide) (by decide) (Nat.zero_le _) (fun a ha => by cases ha) (by have := bulkTL_len p.props; omega) fun u hu => ?_
        have := bulkTL_mem p.props u hu
        exact small_of (by omega)
      · refine .mk _ _ _ _ _ (Nat.zero_le _) (by decide) (by decide) (Nat.zero_le _) (fun a ha => by cases ha) (show 1 ≤ 2000000 by decide) fun u hu => ?_
        rw [List.mem_singleton.1 hu]
        exact SmallN.text (by omega)
  · have h1 := form_bulk (davN wMulti (l.map respN)) []
    have h2 := bulk_resps l hg
    rw [bulk_dav] at h1
    have h3 : wMulti.length = 11 := rfl
    omega
end Go.Proofs.YtcamdnfhnianbaaGreatDoor
/-! MulL -/
namespace Go.Proofs.YtcamdnfhnianbaaGreatDoor
set_option linter.unusedVariables false
set_option linter.unusedSimpArgs false
open Go.RowKit

theorem buildM_err {l : List ToldT} {k : Int} (h : buildM l = .error k) : k = 1 ∨ k = 5 := by
  rw [buildM_eq] at h
  split at h
  · cases hw : writeX (multiN l) with
    | ok s => rw [hw] at h; cases h
    | error e =>
      rw [hw] at h
      have := write_err hw
      unfold mapB at h
      injection h with h
      rcases this with rfl | rfl
      · right; rw [← h, if_neg (by decide)]
      · left; rw [← h, if_pos rfl]
  · injection h with h
    exact .inl h.symm
theorem buildM_len {l : List ToldT} {s : List UInt8} (h : buildM l = .ok s) : s.length ≤ 65536 := (xread_back (build_ok h).2).2.2.2
set_option maxHeartbeats 8000000 in
set_option maxRecDepth 100000 in
set_option linter.unusedSimpArgs false in
theorem law_back17 (l : List ToldT) (A : Option Addr) (c : Nat) (w : World) (hp : ToldsP anyB w (.slice A l.length c) l) (hs : SmallM l) (hE : MEnv w) : Calls Tryz.prog 4 #[.slice A l.length c] w (Ret (.bool true) w) := by
  have HE := Lib.hid hE
  have HP := Lib.hid hp
  have HSm := Lib.hid hs
  have HFx := Lib.hid (fun w' (hb : Below w.heap.size w w') => mfixed_any w' (hE.below hb))
  have HGr := Lib.hid (fun w' (hb : Below w.heap.size w w') => great_any l A c w' (hp.under hb))
  have HBu := Lib.hid (fun w' (hb : Below w.heap.size w w') => mbuild_any l A c w' (hp.under hb) hs (hE.below hb))
  obtain ⟨X, hX⟩ : ∃ X, X = buildM l := ⟨_, rfl⟩
  rw [← hX] at HBu
  have HX := Lib.hid hX
  obtain ⟨E, hEE⟩ : ∃ E, E = Ret (.bool true) w := ⟨_, rfl⟩
  rw [← hEE]
  have HEE := Lib.hid hEE
  clear hE hp hs hX hEE
  go_enter Tryz.func4, Tryz.ntmps4
  go_wp2_with fail
  refine (HFx.out _ (Below.refl _ _)).mono ?_
  rintro e w1 ⟨rfl, hb1⟩
  have HB1 := Lib.hid hb1
  clear hb1
  go_wp2_with fail
  refine (HGr.out _ HB1.out).mono ?_
  rintro e w2 ⟨hb2, b, rfl⟩
  have HB2 := Lib.hid (HB1.out.trans (hb2.mono HB1.out.size))
  clear hb2 HGr HB1
  cases b
  case true =>
    go_wp2_with fail
    refine (HFx.out _ HB2.out).mono ?_
    rintro e w3 ⟨rfl, hb3⟩
    have HB3 := Lib.hid (HB2.out.trans (hb3.mono HB2.out.size))
    clear hb3 HFx HB2
    go_wp2
    rw [HEE.out]
    exact ⟨rfl, HB3.out⟩
  go_wp2_with fail
  refine (HBu.out _ HB2.out).mono ?_
  rintro e w3 ⟨hb3, rfl⟩
  have HB3 := Lib.hid (HB2.out.trans (hb3.mono HB2.out.size))
  clear hb3 HBu HFx HB2
  rcases X with k | s
  · have hk := buildM_err HX.out.symm
    rw [show errX (Except.error k : Except Int (List UInt8)) = k from rfl, show okOr [] (Except.error k : Except Int (List UInt8)) = [] from rfl]
    clear HX
    rcases hk with rfl | rfl
    all_goals
      go_wp2
      rw [HEE.out]
      exact ⟨rfl, HB3.out⟩
  · rw [show errX (Except.ok s : Except Int (List UInt8)) = 0 from rfl, show okOr [] (Except.ok s : Except Int (List UInt8)) = s from rfl]
    have hl := buildM_len HX.out.symm
    have hR := mread_any s w3 (by omega) (HE.out.below HB3.out)
    rw [build_read HX.out.symm] at hR
    have HR := Lib.hid hR
    clear HX hR
    go_wp2_with fail
    refine HR.out.mono ?_
    rintro e w4 ⟨hb4, v, rfl, hrow⟩
    have HB4 := Lib.hid (HB3.out.trans (hb4.mono HB3.out.size))
    obtain ⟨B, d, hv, hc1, hc2⟩ := hrow.form
    subst hv
    have HSa := Lib.hid (msame_any l A B c d w4 (HP.out.under HB4.out) (TabP.any (hrow.tab mov_told)))
    clear hb4 hrow HR HB3
    go_wp2_with fail
    refine HSa.out.mono ?_
    rintro e w5 ⟨rfl, hb5⟩
    have HB5 := Lib.hid (HB4.out.trans (hb5.mono HB4.out.size))
    clear hb5 HSa HB4
    go_wp2
    rw [HEE.out]
    exact ⟨rfl, HB5.out⟩
theorem law_back17v (l : List ToldT) (v : Value) (w : World) (hp : ToldsP anyB w v l) (hs : SmallM l) (hE : MEnv w) : Calls Tryz.prog 4 #[v] w (Ret (.bool true) w) := by
  obtain ⟨A, c, rfl⟩ := tab_shape hp.1
  exact law_back17 l A c w hp hs hE
end Go.Proofs.YtcamdnfhnianbaaGreatDoor

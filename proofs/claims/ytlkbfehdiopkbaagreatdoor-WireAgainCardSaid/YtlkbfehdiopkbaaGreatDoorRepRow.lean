/-
  From a law's walk of layers 11 and 12 to its row: what the listed variables give; a world that holds them; arguments that are texts, headers and responses. No condition.
-/
import Derived.Test.YtlkbfehdiopkbaaGreatDoorTrod
import Derived.Test.YtlkbfehdiopkbaaGreatDoorRepN
import Derived.Test.YtlkbfehdiopkbaaGreatDoorShelf
import Derived.Deep.DeepHandedRow
import Derived.Lib.LaidU8T
import Derived.Lib.LaidCase
import Derived.Stop.LaidErr
import Derived.PinnedBridge
import Derived.Lay
import Derived.MakeChecks
namespace Go.Proofs.YtlkbfehdiopkbaaGreatDoor
open Go.ChangeShapes Go.WideShapes Go.ChangeAt Go.RowKit Go.Deep

theorem own : ownKnob Tryz.prog.godebug = none := by kernel_rfl
theorem laidOut : laidOutB Tryz.prog = true := by kernel_rfl
theorem u8x : U8Extra Tryz.prog Tryz.lays260_ren := {
  n3 := by kernel_rfl
  n4 := by kernel_rfl
  y3 := by kernel_rfl
  y4 := by kernel_rfl
  c5 := by kernel_rfl
  c119 := by kernel_rfl
  c138 := by kernel_rfl }
def caseRen : Go.Shelf.Ren := ⟨Tryz.lays274_ren.f, Tryz.lays274_ren.t, fun _ => 3⟩
theorem layCase : Go.Proofs.Lays.n274 Tryz.prog caseRen := { Tryz.lays274 with }
theorem casex : CaseExtra Tryz.prog caseRen := ⟨by kernel_rfl, by kernel_rfl, by kernel_rfl, by kernel_rfl, by kernel_rfl, by kernel_rfl⟩
theorem accept_eq : (Rows.laid_unicode_utf8_acceptRanges : DataW Unit) = Lib.acceptData := by kernel_rfl
theorem pow_eq : (Rows.laid_internal_strconv_uint64pow10 : DataW Unit) = Lib.tabData .u64 Lib.pow10Tab := by kernel_rfl
theorem first_eq : Rows.laid_unicode_utf8_first = Lib.firstData := by
  unfold Rows.laid_unicode_utf8_first
  exact Pinned.utf8First_eq
theorem caseR_eq : Rows.laid_unicode_CaseRanges = Lib.caseData := by
  unfold Rows.laid_unicode_CaseRanges
  exact Pinned.caseRanges_eq
noncomputable def laidList : List (String × DataW Unit) := Rows.replyWritesRow.laid
/-- a variable that reads as an interface value holds one. -/
theorem iface_var {P : Program} {W : World} {n nm : String} {d : DataW Unit} {g : Nat} {ti : TypeId} {ms : Array (String × TypeId)} (hg : P.globalNamed n = some g) (hty : (P.globals[g]?).map (·.type) = some ti) (hi : P.underlying ti = some (.interface ms))
    (h : Lib.VarReads P W n (.iface nm d)) : ∃ t p, W.var? P n = some #[.iface t p] := by
  obtain ⟨g', t', cs, fuel, p, h1, h2, h3, h4⟩ := h
  obtain rfl := Option.some.inj (hg.symm.trans h1)
  obtain rfl := Option.some.inj (hty.symm.trans h2)
  cases fuel with
  | zero => simp [DataW.trod] at h4
  | succ fuel =>
    rw [DataW.trod_step] at h4
    unfold DataW.trodStep at h4
    simp only [hi] at h4
    obtain ⟨l⟩ := cs
    rcases l with _ | ⟨x, _ | ⟨y, r⟩⟩
    · simp at h4
    · cases x <;> simp at h4
      exact ⟨_, _, h3⟩
    · simp at h4
theorem env_of {W : World} (h0 : laidMetH Tryz.prog Rows.replyWritesRow.laid W) (hsh : W.ShapedOpen Tryz.prog) : Env W := by
  have h : laidMet Tryz.prog [("math/bits.deBruijn32tab", Rows.laid_math_bits_deBruijn32tab), ("math/bits.deBruijn64tab", Rows.laid_math_bits_deBruijn64tab), ("internal/strconv.uint64pow10", Rows.laid_internal_strconv_uint64pow10), ("unicode/utf8.acceptRanges", Rows.laid_unicode_utf8_acceptRanges), ("strconv.ErrRange", Rows.laid_strconv_ErrRange), ("strconv.ErrSyntax", Rows.laid_strconv_ErrSyntax), ("unicode.CaseRanges", Rows.laid_unicode_CaseRanges), ("unicode/utf8.first", Rows.laid_unicode_utf8_first)] W := by
    rw [MakeChecks.laidMetH_plain _ _ _ (by kernel_rfl)] at h0
    exact h0
  have rf := Lib.laidMet.reads h (n := "unicode/utf8.first") (d := Rows.laid_unicode_utf8_first) (by simp)
  have ra := Lib.laidMet.reads h (n := "unicode/utf8.acceptRanges") (d := Rows.laid_unicode_utf8_acceptRanges) (by simp)
  have rc := Lib.laidMet.reads h (n := "unicode.CaseRanges") (d := Rows.laid_unicode_CaseRanges) (by simp)
  rw [first_eq] at rf
  rw [accept_eq] at ra
  rw [caseR_eq] at rc
  have h3 := laidMet.tail (laidMet.tail h)
  rw [pow_eq] at h3
  have hpow := Lib.tabIs_of_head (g := 4) (t := 156) (n := 20) (by kernel_rfl) (by kernel_rfl) Tryz.underlying156 Tryz.underlying129 (by kernel_rfl) (by kernel_rfl) h3
  have e5 := iface_var (g := 2) (ti := 77) (by kernel_rfl) (by kernel_rfl) Tryz.underlying77 (Lib.laidMet.reads h (n := "strconv.ErrRange") (d := Rows.laid_strconv_ErrRange) (by simp))
  have e6 := iface_var (g := 1) (ti := 77) (by kernel_rfl) (by kernel_rfl) Tryz.underlying77 (Lib.laidMet.reads h (n := "strconv.ErrSyntax") (d := Rows.laid_strconv_ErrSyntax) (by simp))
  exact ⟨utf8Tabs_of_readsT (U8Types.of260 Tryz.lays260) u8x rf ra, cell_of_shapedOpen_int (zero := #[.int .i64 0]) (t := 3) hsh (of_decide_eq_true (by kernel_rfl)) (by kernel_rfl) rfl (by kernel_rfl) (by kernel_rfl) Tryz.underlying3, caseVar_of_reads layCase (by kernel_rfl) casex rc, hpow, e6, e5⟩
/-- A world for the witness: the listed variables hold what their texts lay. -/
noncomputable def laidWorld (os : Os) : World := World.laidAll Tryz.prog os Rows.replyWritesRow.laid
theorem laidWorld_os (os : Os) : (laidWorld os).os = os := World.laidAll_os _ _ _
theorem laidWorld_met (os : Os) (args : Array Value) : laidMet Tryz.prog Rows.replyWritesRow.laid ((laidWorld os).forCall (fun _ _ => 0) ⟨#[], args, []⟩).memory :=
  laidMet_laidAll args (by kernel_rfl) (by kernel_rfl)
theorem witness_sh {H : Type} {enc : TypeId × Value → H} {C : Checked} {os : Os} {f : FuncId} {fn : Func} {s : OpenSpec} {conds : List PathCond} {apart : Bool} {laid : List (String × DataW Unit)} (w0 : World) (args : Array Value) (hos : w0.os = os)
    (hsh : (w0.forCall (fun _ _ => 0) ⟨#[], args, []⟩).Shaped C.prog)
    (hok : Input.okWideB C.prog (w0.forCall (fun _ _ => 0) ⟨#[], args, []⟩) f ⟨#[], args, []⟩ = true)
    (hrow : s.preRow enc C.prog fn conds apart laid (w0.forCall (fun _ _ => 0) ⟨#[], args, []⟩).memory args) :
    ∃ (w : World) (tape : Tape) (i : Input), w.os = os ∧ (w.forCall tape i).Shaped C.prog ∧ i.vars = [] ∧ Input.okWide C.prog (w.forCall tape i) .any w.heap.size f i ∧
      s.preRow enc C.prog fn conds apart laid (w.forCall tape i).memory i.args ∧ ({ modest := false } : Assume).holds C.prog (lone (Frame.enter C.prog f i.args .normal) [] (w.forCall tape i)) :=
  ⟨w0, fun _ _ => 0, ⟨#[], args, []⟩, hos, hsh, (Input.okWide_of_okWideB (base := 0) hok).1, (Input.okWide_of_okWideB hok).2, hrow, by
    simp only [Assume.holds]
    exact ⟨by simp, by simp, fun _ => Modest.zero, by simp, by simp⟩⟩

/-! headers and responses that came in -/
section
variable {H : Type} {enc : TypeId × Value → H}
theorem two {α : Type} {l : List α} (h : l.length = 2) : ∃ a b, l = [a, b] := by
  match l, h with
  | [a, b], _ => exact ⟨a, b, rfl⟩
theorem five {α : Type} {l : List α} (h : l.length = 5) : ∃ a b c d e, l = [a, b, c, d, e] := by
  match l, h with
  | [a, b, c, d, e], _ => exact ⟨a, b, c, d, e, rfl⟩
/-- how much a header is. -/
def hdrM (h : HdrT) : Nat := h.name.length + h.value.length + 2
set_option maxRecDepth 100000 in
theorem hdrs_of_cells {W : World} {fuel : Nat} {v : Value} {x : DataW H × List MemPlace} (h : DataW.trod enc Tryz.prog W 0 (fun _ => true) true fuel 24 [v] = some x) : ∃ l, Hdrs W v l ∧ (l.map hdrM).sum + l.length ≤ Rows.uptoBulk x.1 := by
  exact tab_of_trod (fs := _) (α := HdrT) HdrR hdrM Tryz.underlying24 Tryz.underlying38 (by kernel_rfl) (by kernel_rfl) (by decide) (fun cs ys k hc hy hf => by
    obtain ⟨c0, c1, rfl⟩ := two hc
    obtain ⟨y0, y1, rfl⟩ := two hy
    obtain ⟨v0, z0, h0, hz0, t0⟩ := hf 0 _ rfl
    obtain ⟨v1, z1, h1, hz1, t1⟩ := hf 1 _ rfl
    injection h0 with h0; injection h1 with h1
    injection hz0 with hz0; injection hz1 with hz1
    subst h0 h1 hz0 hz1
    obtain ⟨⟨⟨s0⟩⟩, hs0, hx0, -⟩ := DataW.trod_string Tryz.underlying9 t0
    obtain ⟨⟨⟨s1⟩⟩, hs1, hx1, -⟩ := DataW.trod_string Tryz.underlying9 t1
    injection hs0 with hs0; injection hs1 with hs1
    subst hs0 hs1
    refine ⟨⟨s0, s1⟩, rfl, ?_⟩
    have hb0 : Rows.uptoBulk y0.1 = s0.length + 1 := by rw [hx0]; rfl
    have hb1 : Rows.uptoBulk y1.1 = s1.length + 1 := by rw [hx1]; rfl
    simp only [Rows.uptoBulk, Rows.uptoBulkAll, List.map_cons, List.map_nil, hb0, hb1, hdrM]
    omega) h
theorem flat_le : ∀ l : List HdrT, (l.flatMap hdrF).length ≤ 4 * ((l.map hdrM).sum + l.length)
  | [] => Nat.zero_le _
  | x :: l => by
    have := flat_le l
    rw [List.flatMap_cons, List.length_append]
    have hx : (hdrF x).length = x.name.length + x.value.length + 4 := by
      unfold hdrF
      simp only [List.length_append, List.length_cons, List.length_nil, crlf]
      omega
    simp only [List.map_cons, List.sum_cons, List.length_cons, hdrM]
    omega
/-- how much a response is: at the most a fourth of its headers' form and its body. -/
def respM (r : RespT) : Nat := (r.hdrs.map hdrM).sum + r.hdrs.length + r.body.length
/-- one cell of a response's row. -/
def RespR (w : World) (cs : List Value) (r : RespT) : Prop := ∃ hv, cs = [.int .i64 r.status, hv, .string ⟨r.body.toArray⟩, .bool r.head, .bool r.close] ∧ Hdrs w hv r.hdrs
def Resps (w : World) (v : Value) (l : List RespT) : Prop := Tab 5 RespR w v l
set_option maxRecDepth 100000 in
theorem resp_of_trod {W : World} {v : Value} {d : DataW H} {ps : List MemPlace} (hv : Value.okWide Tryz.prog W .any 0 49 v)
    (h : DataW.Trod enc Tryz.prog W 0 (fun _ => true) true 49 v d ps) : ∃ (r : RespT) (hv : Value), v = respV r hv ∧ Hdrs W hv r.hdrs ∧ respM r ≤ Rows.uptoBulk d ∧ -9223372036854775808 ≤ r.status ∧ r.status ≤ 9223372036854775807 := by
  obtain ⟨v0, v1, v2, v3, v4, y0, y1, y2, y3, y4, n, rfl, rfl, t0, t1, t2, t3, t4⟩ := open_five Tryz.underlying49 (by kernel_rfl) (by kernel_rfl) hv h
  obtain ⟨z, hz, -, hzb⟩ := DataW.trod_int Tryz.underlying3 t0
  obtain ⟨l, hl, hlb⟩ := hdrs_of_cells t1
  obtain ⟨⟨⟨s2⟩⟩, hs2, hx2, -⟩ := DataW.trod_string Tryz.underlying9 t2
  obtain ⟨b3, hb3, -⟩ := DataW.trod_bool Tryz.underlying4 t3
  obtain ⟨b4, hb4, -⟩ := DataW.trod_bool Tryz.underlying4 t4
  injection hz with hz; injection hs2 with hs2; injection hb3 with hb3; injection hb4 with hb4
  subst hz hs2 hb3 hb4
  have hb2 : Rows.uptoBulk y2.1 = s2.length + 1 := by rw [hx2]; rfl
  refine ⟨⟨z, l, s2, b3, b4⟩, v1, rfl, hl, ?_, ?_⟩
  · simp only [Rows.uptoBulk, Rows.uptoBulkAll, hb2, respM]
    omega
  · simpa [Lit.wf, IntKind.min, IntKind.max, IntKind.signed, IntKind.bits] using hzb
set_option maxRecDepth 100000 in
theorem resps_of_trod {W : World} {v : Value} {d : DataW H} {ps : List MemPlace} (hv : Value.okWide Tryz.prog W .any 0 62 v)
    (h : DataW.Trod enc Tryz.prog W 0 (fun _ => true) true 62 v d ps) : ∃ l, Resps W v l ∧ (l.map respM).sum + l.length ≤ Rows.uptoBulk d := by
  obtain ⟨fuel, hf⟩ := trod_one Tryz.underlying62 hv h
  exact tab_of_trod (fs := _) (α := RespT) RespR respM Tryz.underlying62 Tryz.underlying49 (by kernel_rfl) (by kernel_rfl) (by decide) (fun cs ys k hc hy hf => by
    obtain ⟨c0, c1, c2, c3, c4, rfl⟩ := five hc
    obtain ⟨y0, y1, y2, y3, y4, rfl⟩ := five hy
    obtain ⟨v0, z0, h0, hz0, t0⟩ := hf 0 _ rfl
    obtain ⟨v1, z1, h1, hz1, t1⟩ := hf 1 _ rfl
    obtain ⟨v2, z2, h2, hz2, t2⟩ := hf 2 _ rfl
    obtain ⟨v3, z3, h3, hz3, t3⟩ := hf 3 _ rfl
    obtain ⟨v4, z4, h4, hz4, t4⟩ := hf 4 _ rfl
    injection h0 with h0; injection h1 with h1; injection h2 with h2; injection h3 with h3; injection h4 with h4
    injection hz1 with hz1; injection hz2 with hz2
    subst h0 h1 h2 h3 h4 hz1 hz2
    obtain ⟨z, hz, -, -⟩ := DataW.trod_int Tryz.underlying3 t0
    obtain ⟨l, hl, hlb⟩ := hdrs_of_cells t1
    obtain ⟨⟨⟨s2⟩⟩, hs2, hx2, -⟩ := DataW.trod_string Tryz.underlying9 t2
    obtain ⟨b3, hb3, -⟩ := DataW.trod_bool Tryz.underlying4 t3
    obtain ⟨b4, hb4, -⟩ := DataW.trod_bool Tryz.underlying4 t4
    injection hz with hz; injection hs2 with hs2; injection hb3 with hb3; injection hb4 with hb4
    subst hz hs2 hb3 hb4
    refine ⟨⟨z, l, s2, b3, b4⟩, ⟨_, rfl, hl⟩, ?_⟩
    have hb2 : Rows.uptoBulk y2.1 = s2.length + 1 := by rw [hx2]; rfl
    simp only [Rows.uptoBulk, Rows.uptoBulkAll, List.map_cons, List.map_nil, hb2, respM]
    omega) hf
end
theorem wf_u16 {n : Int} (h : (Lit.int .u16 n).wf = true) : ∃ c : Nat, n = c ∧ c ≤ 65535 := by
  have : 0 ≤ n ∧ n ≤ 65535 := by simpa [Lit.wf, IntKind.min, IntKind.max, IntKind.signed, IntKind.bits] using h
  exact ⟨n.toNat, by omega, by omega⟩
theorem wf_u8 {n : Int} (h : (Lit.int .u8 n).wf = true) : ∃ c : Nat, n = c ∧ c ≤ 255 := by
  have : 0 ≤ n ∧ n ≤ 255 := by simpa [Lit.wf, IntKind.min, IntKind.max, IntKind.signed, IntKind.bits] using h
  exact ⟨n.toNat, by omega, by omega⟩
theorem read_str : Tryz.prog.readableRec 9 = true := by kernel_rfl
theorem row_str : 9 < Tryz.prog.types.size := of_decide_eq_true (by kernel_rfl)
theorem read_bool : Tryz.prog.readableRec 4 = true := by kernel_rfl
theorem row_bool : 4 < Tryz.prog.types.size := of_decide_eq_true (by kernel_rfl)
theorem read_u16 : Tryz.prog.readableRec 22 = true := by kernel_rfl
theorem row_u16 : 22 < Tryz.prog.types.size := of_decide_eq_true (by kernel_rfl)
theorem read_resp : Tryz.prog.readableRec 49 = true := by kernel_rfl
theorem row_resp : 49 < Tryz.prog.types.size := of_decide_eq_true (by kernel_rfl)
theorem read_resps : Tryz.prog.readableRec 62 = true := by kernel_rfl
theorem row_resps : 62 < Tryz.prog.types.size := of_decide_eq_true (by kernel_rfl)
theorem read_strs : Tryz.prog.readableRec 40 = true := by kernel_rfl
theorem row_strs : 40 < Tryz.prog.types.size := of_decide_eq_true (by kernel_rfl)
theorem read_u8 : Tryz.prog.readableRec 5 = true := by kernel_rfl
theorem row_u8 : 5 < Tryz.prog.types.size := of_decide_eq_true (by kernel_rfl)
theorem read_bytes : Tryz.prog.readableRec 31 = true := by kernel_rfl
theorem row_bytes : 31 < Tryz.prog.types.size := of_decide_eq_true (by kernel_rfl)
end Go.Proofs.YtlkbfehdiopkbaaGreatDoor

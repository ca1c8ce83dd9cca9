/-
  The library's functions that layers 11 and 12 call, in the words of lists of bytes. Conditions: what the listed package variables hold (Env); a text is shorter than a thousand million bytes.
-/
import Derived.Test.YtlkbfehdiopkbaaGreatDoorShelfC
import Derived.Test.YtlkbfehdiopkbaaGreatDoorRepNum
import Derived.Test.YtlkbfehdiopkbaaGreatDoorRepMem
namespace Go.Proofs.YtlkbfehdiopkbaaGreatDoor
open Go.RowKit

/-- What the listed package variables hold. -/
structure Env (w : World) : Prop where
  tabs : Lib.Utf8Tabs 5 6 w
  maxLen : ∃ m, w.cell? ⟨0, 0, none⟩ = some (.int .i64 m)
  caseV : Lib.CaseVar 3 Lib.caseA w
  pow : Lib.TabIs Tryz.prog w "internal/strconv.uint64pow10" .u64 Lib.pow10Tab
  esyn : ∃ t p, w.var? Tryz.prog "strconv.ErrSyntax" = some #[.iface t p]
  eran : ∃ t p, w.var? Tryz.prog "strconv.ErrRange" = some #[.iface t p]
theorem cell_lt {w : World} {a : Addr} {v : Value} (h : w.cell? a = some v) : a.block < w.heap.size := World.block_lt_of_cell? w a h
theorem var_lt {w : World} {n : String} {g : Nat} {cs : Array Value} (hg : Tryz.prog.globalNamed n = some g) (h : w.var? Tryz.prog n = some cs) : g < w.heap.size := by
  unfold World.var? at h
  simp only [hg, Option.bind_some] at h
  rcases Nat.lt_or_ge g w.heap.size with h' | h'
  · exact h'
  · simp [Array.getElem?_eq_none h'] at h
theorem Env.below {w w' : World} (h : Env w) (hb : Below w.heap.size w w') : Env w' :=
  ⟨Utf8Tabs_below h.tabs hb, h.maxLen.imp fun _ hm => (hb.cell (cell_lt hm)).trans hm, Lib.CaseVar_below h.caseV hb, (Lib.tabBelow_of_tabIs h.pow) w' hb,
    h.esyn.imp fun _ h => h.imp fun _ h => var?_below hb (show Tryz.prog.globalNamed "strconv.ErrSyntax" = some 1 by kernel_rfl) (var_lt (by kernel_rfl) h) h,
    h.eran.imp fun _ h => h.imp fun _ h => var?_below hb (show Tryz.prog.globalNamed "strconv.ErrRange" = some 2 by kernel_rfl) (var_lt (by kernel_rfl) h) h⟩

theorem indexByte_any (l : List UInt8) (c : UInt8) (w : World) : Calls Tryz.prog 75 #[.string ⟨l.toArray⟩, .int .u8 c.toNat] w (Same0 (.int .i64 (Lib.indexByte l c)) w) := by
  refine (Tryz.strings_IndexByte ⟨l.toArray⟩ c.toNat w).mono ?_
  rintro e w' ⟨rfl, rfl⟩
  refine ⟨?_, rfl⟩
  rw [show ((c.toNat : Int).toNat.toUInt8) = c by simp]
/-- what strings.Cut hands back. -/
def cutT (s : List UInt8) : Option (List UInt8 × List UInt8) → Value
  | some (a, b) => .tuple #[.string ⟨a.toArray⟩, .string ⟨b.toArray⟩, .bool true]
  | none => .tuple #[.string ⟨s.toArray⟩, .string ⟨#[]⟩, .bool false]
theorem scut_any (s sep : List UInt8) (w : World) (hs : s.length ≤ 1000000000) (hE : Env w) :
    Calls Tryz.prog 42 #[.string ⟨s.toArray⟩, .string ⟨sep.toArray⟩] w (Ret (cutT s (cutS sep s)) w) := by
  obtain ⟨m, hm⟩ := hE.maxLen
  refine (Tryz.strings_Cut ⟨s.toArray⟩ ⟨sep.toArray⟩ m w (by show s.length < _; omega) hm).mono ?_
  rintro e w' ⟨rfl, n, rfl⟩
  refine ⟨?_, below_draws (Below.refl _ _) n⟩
  show Ending.returned (.tuple #[.string ⟨(Lib.cut s sep).1.toArray⟩, .string ⟨(Lib.cut s sep).2.1.toArray⟩, .bool (Lib.cut s sep).2.2]) = _
  rw [cut_eq]
  rcases cutS sep s with _ | ⟨a, b⟩ <;> rfl
/-- a slice of texts, handed back. -/
def RetS (ls : List (List UInt8)) (w : World) (e : Ending) (w' : World) : Prop := ∃ g, e = .returned (.slice (some ⟨g, 0, none⟩) ls.length ls.length) ∧ Strs w' (.slice (some ⟨g, 0, none⟩) ls.length ls.length) ls ∧ Below w.heap.size w w'
theorem ssplit_any (s sep : List UInt8) (w : World) (hs : s.length ≤ 1000000000) (h1 : 1 ≤ sep.length) (hE : Env w) :
    Calls Tryz.prog 43 #[.string ⟨s.toArray⟩, .string ⟨sep.toArray⟩] w (RetS (Lib.split s sep) w) := by
  obtain ⟨m, hm⟩ := hE.maxLen
  refine (Tryz.strings_Split ⟨s.toArray⟩ ⟨sep.toArray⟩ m w (by show s.length < _; omega) hm h1).mono ?_
  rintro e w' ⟨rfl, rfl⟩
  have hall := Lib.splitB_all ⟨sep.toArray⟩ h1 0 _ ⟨s.toArray⟩ rfl
  have hle := Lib.countB_le ⟨sep.toArray⟩ h1 s.length ⟨s.toArray⟩ (Nat.le_refl _)
  have hd := Lib.splitB_data ⟨sep.toArray⟩ 0 (Lib.countB ⟨s.toArray⟩ ⟨sep.toArray⟩) ⟨s.toArray⟩
  have hd2 : (Lib.splitB ⟨sep.toArray⟩ 0 (Lib.countB ⟨s.toArray⟩ ⟨sep.toArray⟩) ⟨s.toArray⟩).map (·.data.toList) = Lib.split s sep := hd
  have hlen : (Lib.split s sep).length = Lib.countB ⟨s.toArray⟩ ⟨sep.toArray⟩ + 1 := by rw [← hd2, List.length_map, hall]
  have hsz : Lib.countB ⟨s.toArray⟩ ⟨sep.toArray⟩ ≤ s.length := hle
  refine ⟨w.heap.size, by rw [hlen], ⟨some ⟨w.heap.size, 0, none⟩, (Lib.split s sep).length, rfl, Nat.le_refl _, by unfold maxLen; omega, fun j l hj => ⟨w.heap.size, 0, rfl, by simp, ?_⟩⟩, (Below.refl _ w).alloc (Nat.le_refl _) _⟩
  rw [cell_new, Nat.zero_add]
  rw [← hd2, List.getElem?_map] at hj
  obtain ⟨b, hb, rfl⟩ := Option.map_eq_some_iff.1 hj
  simp [hb]
theorem scutPrefix_any (s p : List UInt8) (w : World) :
    Calls Tryz.prog 44 #[.string ⟨s.toArray⟩, .string ⟨p.toArray⟩] w (Same0 (.tuple #[.string ⟨(Lib.trimPrefix s p).toArray⟩, .bool (p.isPrefixOf s)]) w) :=
  (Tryz.strings_CutPrefix ⟨s.toArray⟩ ⟨p.toArray⟩ w).mono fun _ _ ⟨h1, h2⟩ => ⟨h1, h2.symm⟩
theorem shasPrefix_any (s p : List UInt8) (w : World) :
    Calls Tryz.prog 48 #[.string ⟨s.toArray⟩, .string ⟨p.toArray⟩] w (Same0 (.bool (p.isPrefixOf s)) w) :=
  (Tryz.strings_HasPrefix ⟨s.toArray⟩ ⟨p.toArray⟩ w).mono fun _ _ ⟨h1, h2⟩ => ⟨h1, h2.symm⟩
theorem trim_any (s : List UInt8) (w : World) (hs : s.length ≤ maxLen) :
    Calls Tryz.prog 58 #[.string ⟨s.toArray⟩, .string ⟨#[32, 9]⟩] w (Ret (.string ⟨(trimW s).toArray⟩) w) :=
  Any.strings_Trim_laid Tryz.lay160 (by kernel_rfl) ⟨s.toArray⟩ ⟨#[32, 9]⟩ w hs (by decide) (ascii_of_all (by decide))
theorem toLower_any (s : List UInt8) (w : World) (hs : s.length ≤ 1000000000) (hE : Env w) :
    Calls Tryz.prog 57 #[.string ⟨s.toArray⟩] w (Ret (.string ⟨(Lib.toLowerD s).toArray⟩) w) :=
  Tryz.strings_ToLower_any ⟨s.toArray⟩ w (by show s.length < _; omega) hE.caseV hE.tabs
theorem itoa_any (n : Int) (w : World) (h0 : -9223372036854775808 ≤ n) (h1 : n ≤ 9223372036854775807) (hE : Env w) :
    Calls Tryz.prog 36 #[.int .i64 n] w (Ret (.string ⟨(Lib.itoa n).toArray⟩) w) := by
  refine (Tryz.strconv_Itoa n h0 h1 w hE.pow).mono ?_
  rintro e w' ⟨rfl, k, os, rfl⟩
  refine ⟨rfl, rfl, rfl, rfl, ?_, fun j hj => ?_⟩
  · show w.heap.size ≤ (w.heap ++ os).size
    simp
  · show (w.heap ++ os)[j]? = w.heap[j]?
    rw [Array.getElem?_append_left hj]
/-- what strconv.Atoi hands back. -/
def AtoiP (s : List UInt8) (w : World) (e : Ending) (w' : World) : Prop :=
  ∃ ev, e = .returned (.tuple #[.int .i64 (stS s), ev]) ∧ ((∃ n, Lib.atoiAll s = .ok n ∧ ev = .nilIface) ∨ ((∀ n, Lib.atoiAll s ≠ .ok n) ∧ ∃ t p, ev = .iface t p)) ∧ Below w.heap.size w w'
theorem atoi_any (s : List UInt8) (w : World) (hs : s.length ≤ 1000000000) (hE : Env w) :
    Calls Tryz.prog 45 #[.string ⟨s.toArray⟩] w (AtoiP s w) := by
  obtain ⟨t1, p1, hv1⟩ := hE.esyn
  obtain ⟨t2, p2, hv2⟩ := hE.eran
  rcases h : Lib.atoiAll s with n | _ | _
  · refine (Tryz.strconv_Atoi_ok ⟨s.toArray⟩ (by show s.length ≤ _; omega) n h w).mono ?_
    rintro e w' ⟨rfl, hw⟩
    refine ⟨_, ?_, .inl ⟨n, h, rfl⟩, ?_⟩
    · rw [show stS s = n by unfold stS; rw [h]]
    · rcases hw with rfl | ⟨t, rfl⟩
      · exact Below.refl _ _
      · exact Lib.bytesWorld_below _ _ _
  · refine (Tryz.strconv_Atoi_syntax_var ⟨s.toArray⟩ (by show s.length ≤ _; omega) h t1 p1 w hv1).mono ?_
    rintro e w' ⟨N, rfl, -, -, hb⟩
    have hn : ∀ n, Lib.atoiAll s ≠ .ok n := fun n => by rw [h]; simp
    rw [show (0 : Int) = stS s by unfold stS; rw [h]]
    exact ⟨_, rfl, .inr ⟨hn, _, _, rfl⟩, hb⟩
  · refine (Tryz.strconv_Atoi_range_var ⟨s.toArray⟩ (by show s.length ≤ _; omega) h t2 p2 w hv2).mono ?_
    rintro e w' ⟨N, rfl, -, -, hb⟩
    have hn : ∀ n, Lib.atoiAll s ≠ .ok n := fun n => by rw [h]; simp
    have e : Lib.atoiSat s = stS s := by unfold stS; rw [h]
    exact ⟨_, by rw [← e], .inr ⟨hn, _, _, rfl⟩, hb⟩
theorem repeatL_blank : ∀ n : Nat, Lib.repeatL [32] n = List.replicate n 32
  | 0 => rfl
  | n + 1 => by
    unfold Lib.repeatL
    rw [repeatL_blank n]
    rfl
theorem blanks_any (n : Nat) (w : World) (hn : n ≤ 1000000000) :
    Calls Tryz.prog 47 #[.string ⟨#[32]⟩, .int .i64 n] w (Ret (.string ⟨(List.replicate n 32).toArray⟩) w) := by
  rw [← repeatL_blank]
  exact Tryz.strings_Repeat ⟨#[32]⟩ n w (by omega) (by show 1 * n ≤ _; omega)
end Go.Proofs.YtlkbfehdiopkbaaGreatDoor

/-
  From a law's walk to its row: arguments that are lists of bytes and lists of texts. No condition.
-/
import Derived.Test.YtlkbfehdiopkbaaGreatDoorRepRow
namespace Go.Proofs.YtlkbfehdiopkbaaGreatDoor
open Go.ChangeShapes Go.WideShapes Go.ChangeAt Go.RowKit Go.Deep

section
variable {H : Type} {enc : TypeId × Value → H}
/-- the block and place of a list whose first cell is there. -/
theorem addr_at {W : World} {a : Addr} {v : Value} (h : W.cell? (a.add 0) = some v) : ∃ b o, a = ⟨b, o, none⟩ ∧ b < W.heap.size := by
  have h0 : W.cell? a = some v := h
  have hs := addr_plain h0
  have hlt := World.block_lt_of_cell? W a h0
  obtain ⟨b, o, sp⟩ := a
  simp only at hs
  subst hs
  exact ⟨b, o, rfl, hlt⟩
set_option maxRecDepth 100000 in
theorem bytes_of_trod {W : World} {v : Value} {d : DataW H} {ps : List MemPlace} (hv : Value.okWide Tryz.prog W .any 0 31 v)
    (h : DataW.Trod enc Tryz.prog W 0 (fun _ => true) true 31 v d ps) : ∃ l : List UInt8, RdL W v (vbytes l) := by
  obtain ⟨fuel, hf⟩ := trod_one Tryz.underlying31 hv h
  have hc1 : Tryz.prog.cellsOf 5 = 1 := by kernel_rfl
  rcases open_ints Tryz.underlying31 Tryz.underlying5 hc1 hf with ⟨hcs, hx⟩ | ⟨a, len, cap, zs, hcs, _, hl, hm, hz, hx, hcell, hw⟩
  · injection hcs with hcs
    subst hcs
    exact ⟨[], none, 0, rfl, Nat.le_refl _, Nat.zero_le _, fun j u hj => by simp [vbytes] at hj⟩
  · injection hcs with hcs
    subst hcs
    simp only [if_true] at hz
    refine ⟨(zs.take len).map fun n => UInt8.ofNat n.toNat, some a, cap, ?_, ?_, hm, fun j u hj => ?_⟩
    · rw [vbytes_len, List.length_map, List.length_take, Nat.min_eq_left (by omega)]
    · rw [vbytes_len, List.length_map, List.length_take]; omega
    · have hjl : j < zs.length ∧ j < len := by
        have h0 := (List.getElem?_eq_some_iff.1 hj).1
        rw [vbytes_len, List.length_map, List.length_take] at h0
        omega
      obtain ⟨b, o, rfl, hb⟩ := addr_at (hcell 0 (by omega))
      refine ⟨b, o, rfl, hb, ?_⟩
      have h1 := hcell j hjl.1
      rw [add_eq] at h1
      rw [h1]
      unfold vbytes at hj
      rw [List.getElem?_map, List.getElem?_map, List.getElem?_take, if_pos hjl.2, List.getElem?_eq_getElem hjl.1] at hj
      simp only [Option.map_some, Option.some.injEq] at hj
      rw [List.getD_eq_getElem?_getD, List.getElem?_eq_getElem hjl.1, Option.getD_some, ← hj]
      have hr := hw _ (List.getElem_mem hjl.1)
      have : 0 ≤ zs[j] ∧ zs[j] ≤ 255 := by simpa [Lit.wf, IntKind.min, IntKind.max, IntKind.signed, IntKind.bits] using hr
      generalize zs[j] = z at *
      have e : (UInt8.ofNat z.toNat).toNat = z.toNat := by
        rw [UInt8.toNat_ofNat']
        exact Nat.mod_eq_of_lt (by omega)
      rw [e]
      congr 2
      omega
theorem bulk_strs : ∀ ss : List ByteArray, Rows.uptoBulkAll (H := H) (strs ss) = (ss.map (·.data.toList)).flatten.length + ss.length
  | [] => rfl
  | s :: ss => by
    have ih := bulk_strs ss
    unfold strs at ih ⊢
    simp only [List.map_cons, Rows.uptoBulkAll, Rows.uptoBulk, List.flatten_cons, List.length_append, List.length_cons] at ih ⊢
    omega
set_option maxRecDepth 100000 in
/-- a list of texts that came in, and how much it is. -/
theorem strsB_of_trod {W : World} {v : Value} {d : DataW H} {ps : List MemPlace} (hv : Value.okWide Tryz.prog W .any 0 40 v)
    (h : DataW.Trod enc Tryz.prog W 0 (fun _ => true) true 40 v d ps) : ∃ ls, Strs W v ls ∧ ls.flatten.length + ls.length ≤ Rows.uptoBulk d := by
  obtain ⟨fuel, hf⟩ := trod_one Tryz.underlying40 hv h
  have hc1 : Tryz.prog.cellsOf 9 = 1 := by kernel_rfl
  rcases open_strings Tryz.underlying40 Tryz.underlying9 hc1 hf with ⟨hcs, hx⟩ | ⟨a, len, cap, ss, hcs, _, hl, hm, hz, hx, hcell, hws⟩
  · injection hcs with hcs
    subst hcs
    exact ⟨[], ⟨none, 0, rfl, Nat.le_refl _, Nat.zero_le _, fun j l hj => by simp at hj⟩, by simp⟩
  · injection hcs with hcs
    subst hcs
    simp only [if_true] at hz
    refine ⟨(ss.take len).map (·.data.toList), ⟨some a, cap, by simp [hz, hl], by simp; omega, hm, fun j l hj => ?_⟩, ?_⟩
    · rw [List.getElem?_map, List.getElem?_take] at hj
      split at hj
      · rename_i hlt
        obtain ⟨s, hs, rfl⟩ := Option.map_eq_some_iff.1 hj
        obtain ⟨b, o, rfl, hb⟩ := addr_at (hcell 0 (by omega))
        have hj' := hcell j (by omega)
        refine ⟨b, o, rfl, hb, ?_⟩
        rw [add_eq] at hj'
        rw [hj', List.getD_eq_getElem?_getD, hs]
        simp
      · cases hj
    · have e := congrArg Prod.fst hx
      simp only at e
      rw [e]
      have := bulk_strs (H := H) (ss.take len)
      simp only [Rows.uptoBulk, List.length_map] at this ⊢
      omega
end
end Go.Proofs.YtlkbfehdiopkbaaGreatDoor

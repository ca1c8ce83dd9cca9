/-
  From a law's walk to its row: arguments that are lists of bytes and lists of texts. No condition.
-/
import Derived.Test.YtlkbfehdiopkbaaGreatDoorRepRow
namespace Go.Proofs.YtlkbfehdiopkbaaGreatDoor
open Go.ChangeShapes Go.WideShapes Go.ChangeAt Go.RowKit Go.Deep

section
variable {H : Type} {enc : TypeId × Value → H}
/-- the block and place of a list whose first cell is there. -/
theorem addr_at {W : World} {a : Addr} {v : Value} (h : W.cell? (a.add 0) = some v) : ∃ b o, a = ⟨b, o, none⟩ ∧ b < W.heap.size := by
  have h0 : W.cell? a = some v := h
  have hs := addr_plain h0
  have hlt := World.block_lt_of_cell? W a h0
  obtain ⟨b, o, sp⟩ := a
  simp only at hs
  subst hs
  exact ⟨b, o, rfl, hlt⟩
set_option maxRecDepth 100000 in
theorem bytes_of_trod {W : World} {v : Value} {d : DataW H} {ps : List MemPlace} (hv : Value.okWide Tryz.prog W .any 0 31 v)
    (h : DataW.Trod enc Tryz.prog W 0 (fun _ => true) true 31 v d ps) : ∃ l : List UInt8, RdL W v (vbytes l) := by
  obtain ⟨fuel, hf⟩ := trod_one Tryz.underlying31 hv h
  have hc1 : Tryz.prog.cellsOf 5 = 1 := by kernel_rfl
  rcases open_ints Tryz.underlying31 Tryz.underlying5 hc1 hf with ⟨hcs, hx⟩ | ⟨a, len, cap, zs, hcs, _, hl, hm, hz, hx, hcell, hw⟩
  · injection hcs with hcs
    subst hcs
    exact ⟨[], none, 0, rfl, Nat.le_refl _, Nat.zero_le _, fun j u hj => by simp [vbytes] at hj⟩
  · injection hcs with hcs
    subst hcs
    simp only [if_true] at hz
    refine ⟨(zs.take len).map fun n => UInt8.ofNat n.toNat, some a, cap, ?_, ?_, hm, fun j u hj => ?_⟩
    · rw [vbytes_len, List.length_map, List.length_take, Nat.min_eq_left (by omega)]
    · rw [vbytes_len, List.length_map, List.length_take]; omega
    · have hjl : j < zs.length ∧ j < len := by
        have h0 := (List.getElem?_eq_some_iff.1 hj).1
        rw [vbytes_len, List.length_map, List.length_take] at h0
        omega
      obtain ⟨b, o, rfl, hb⟩ := addr_at (hcell 0 (by omega))
      refine ⟨b, o, rfl, hb, ?_⟩
      have h1 := hcell j hjl.1
      rw [add_eq] at h1
      rw [h1]
      unfold vbytes at hj
      rw [List.getElem?_map, List.getElem?_map, List.getElem?_take, if_pos hjl.2, List.getElem?_eq_getElem hjl.1] at hj
      simp only [Option.map_some, Option.some.injEq] at hj
      rw [List.getD_eq_getElem?_getD, List.getElem?_eq_getElem hjl.1, Option.getD_some, ← hj]
      have hr := hw _ (List.getElem_mem hjl.1)
      have : 0 ≤ zs[j] ∧ zs[j] ≤ 255 := by simpa [Lit.wf, IntKind.min, IntKind.max, IntKind.signed, IntKind.bits] using hr
      generalize zs[j] = z at *
      have e : (UInt8.ofNat z.toNat).toNat = z.toNat := by
        rw [UInt8.toNat_ofNat']
        exact Nat.mod_eq_of_lt (by omega)
      rw [e]
      congr 2
      omega
end
end Go.Proofs.YtlkbfehdiopkbaaGreatDoor
